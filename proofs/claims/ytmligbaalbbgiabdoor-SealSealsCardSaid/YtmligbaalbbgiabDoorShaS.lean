/- What a text's sum is, as plain functions on lists of numbers. No condition. -/
import Derived.Test.YtmligbaalbbgiabDoorBase
namespace Go.Proofs.YtmligbaalbbgiabDoor

def not32 (a : Nat) : Nat := 4294967295 ^^^ a
def and32 (a b : Nat) : Nat := a &&& b
theorem not32_lt {a : Nat} (ha : a < 4294967296) : not32 a < 4294967296 := Nat.xor_lt_two_pow (n := 32) (by omega) ha
theorem and32_lt {a b : Nat} (ha : a < 4294967296) : and32 a b < 4294967296 := Nat.lt_of_le_of_lt Nat.and_le_left ha
theorem bits_and32 {a b : Nat} (ha : a < 4294967296) (hb : b < 4294967296) : bits .and .u32 (a : Int) (b : Int) = ((and32 a b : Nat) : Int) := u32_and_nat a b ha hb
/-- A word of four bytes, the greatest first. -/
def be4 (l : List UInt8) : Nat := 16777216 * byteAt l 0 + 65536 * byteAt l 1 + 256 * byteAt l 2 + byteAt l 3
theorem be4_lt (l : List UInt8) : be4 l < 4294967296 := by
  have := byteAt_lt l 0; have := byteAt_lt l 1; have := byteAt_lt l 2; have := byteAt_lt l 3
  unfold be4; omega
theorem byteAt_drop (l : List UInt8) (n k : Nat) : byteAt (l.drop n) k = byteAt l (n + k) := by simp [byteAt, List.getD]
theorem be4_bits (a b c d : Nat) (ha : a < 256) (hb : b < 256) (hc : c < 256) (hd : d < 256) :
    bits .or .u32 (bits .or .u32 (bits .or .u32 ((a : Int) % 4294967296 * 16777216 % 4294967296) ((b : Int) % 4294967296 * 65536 % 4294967296)) ((c : Int) % 4294967296 * 256 % 4294967296)) ((d : Int) % 4294967296)
      = ((16777216 * a + 65536 * b + 256 * c + d : Nat) : Int) := by
  rw [show (d : Int) % 4294967296 = ((d : Nat) : Int) from by omega, show (b : Int) % 4294967296 * 65536 % 4294967296 = ((b * 65536 : Nat) : Int) from by omega,
    show (c : Int) % 4294967296 * 256 % 4294967296 = ((c * 256 : Nat) : Int) from by omega, show (a : Int) % 4294967296 * 16777216 % 4294967296 = ((a * 16777216 : Nat) : Int) from by omega]
  rw [u32_or_nat _ _ (by omega) (by omega), nat_join 24 (a * 16777216) (b * 65536) (by omega) (by omega),
    u32_or_nat _ _ (by omega) (by omega), nat_join 16 _ (c * 256) (by omega) (by omega),
    u32_or_nat _ _ (by omega) (by omega), nat_join 8 _ d (by omega) (by omega)]
  congr 1
  omega

def sgm0 (y : Nat) : Nat := xor32 (xor32 (rotl y 25) (rotl y 14)) (y / 8)
def sgm1 (x : Nat) : Nat := xor32 (xor32 (rotl x 15) (rotl x 13)) (x / 1024)
def bigS1 (e : Nat) : Nat := xor32 (xor32 (rotl e 26) (rotl e 21)) (rotl e 7)
def bigS0 (a : Nat) : Nat := xor32 (xor32 (rotl a 30) (rotl a 19)) (rotl a 10)
theorem cast_add4 (a b c d : Nat) : ((a : Int) + (b : Int) + (c : Int) + (d : Int)) % 4294967296 = ((add32 (add32 (add32 a b) c) d : Nat) : Int) := by unfold add32; omega
theorem sgm0_bits {y : Nat} (h : y < 4294967296) : bits .xor .u32 (bits .xor .u32 ((rotl y 25 : Nat) : Int) ((rotl y 14 : Nat) : Int)) ((y : Int) / 8) = ((sgm0 y : Nat) : Int) := by
  rw [bits_xor32 (rotl_lt _ _ h) (rotl_lt _ _ h), show (y : Int) / 8 = ((y / 8 : Nat) : Int) from by omega, bits_xor32 (xor32_lt (rotl_lt _ _ h) (rotl_lt _ _ h)) (by omega)]
  rfl
theorem sgm1_bits {y : Nat} (h : y < 4294967296) : bits .xor .u32 (bits .xor .u32 ((rotl y 15 : Nat) : Int) ((rotl y 13 : Nat) : Int)) ((y : Int) / 1024) = ((sgm1 y : Nat) : Int) := by
  rw [bits_xor32 (rotl_lt _ _ h) (rotl_lt _ _ h), show (y : Int) / 1024 = ((y / 1024 : Nat) : Int) from by omega, bits_xor32 (xor32_lt (rotl_lt _ _ h) (rotl_lt _ _ h)) (by omega)]
  rfl
theorem bigS1_bits {e : Nat} (h : e < 4294967296) : bits .xor .u32 (bits .xor .u32 ((rotl e 26 : Nat) : Int) ((rotl e 21 : Nat) : Int)) ((rotl e 7 : Nat) : Int) = ((bigS1 e : Nat) : Int) := by
  rw [bits_xor32 (rotl_lt _ _ h) (rotl_lt _ _ h), bits_xor32 (xor32_lt (rotl_lt _ _ h) (rotl_lt _ _ h)) (rotl_lt _ _ h)]
  rfl
theorem bigS0_bits {a : Nat} (h : a < 4294967296) : bits .xor .u32 (bits .xor .u32 ((rotl a 30 : Nat) : Int) ((rotl a 19 : Nat) : Int)) ((rotl a 10 : Nat) : Int) = ((bigS0 a : Nat) : Int) := by
  rw [bits_xor32 (rotl_lt _ _ h) (rotl_lt _ _ h), bits_xor32 (xor32_lt (rotl_lt _ _ h) (rotl_lt _ _ h)) (rotl_lt _ _ h)]
  rfl
def chS (e f g : Nat) : Nat := xor32 (and32 e f) (and32 (not32 e) g)
def majS (a b c : Nat) : Nat := xor32 (xor32 (and32 a b) (and32 a c)) (and32 b c)
theorem chS_lt {e f g : Nat} (he : e < 4294967296) : chS e f g < 4294967296 := xor32_lt (and32_lt he) (and32_lt (not32_lt he))
theorem majS_lt {a b c : Nat} (ha : a < 4294967296) (hb : b < 4294967296) : majS a b c < 4294967296 := xor32_lt (xor32_lt (and32_lt ha) (and32_lt ha)) (and32_lt hb)
theorem ch_bits {e f g : Nat} (he : e < 4294967296) (hf : f < 4294967296) (hg : g < 4294967296) :
    bits .xor .u32 (bits .and .u32 (e : Int) (f : Int)) (bits .and .u32 (bits .xor .u32 (if IntKind.u32.signed = true then -1 else IntKind.u32.max) (e : Int)) (g : Int)) = ((chS e f g : Nat) : Int) := by
  rw [show (if IntKind.u32.signed = true then (-1 : Int) else IntKind.u32.max) = ((4294967295 : Nat) : Int) from rfl, u32_xor_nat 4294967295 e (by omega) he]
  rw [show (4294967295 ^^^ e : Nat) = not32 e from rfl, bits_and32 he hf, bits_and32 (not32_lt he) hg, bits_xor32 (and32_lt he) (and32_lt (not32_lt he))]
  rfl
theorem maj_bits {a b c : Nat} (ha : a < 4294967296) (hb : b < 4294967296) (hc : c < 4294967296) :
    bits .xor .u32 (bits .xor .u32 (bits .and .u32 (a : Int) (b : Int)) (bits .and .u32 (a : Int) (c : Int))) (bits .and .u32 (b : Int) (c : Int)) = ((majS a b c : Nat) : Int) := by
  rw [bits_and32 ha hb, bits_and32 ha hc, bits_and32 hb hc, bits_xor32 (and32_lt ha) (and32_lt ha), bits_xor32 (xor32_lt (and32_lt ha) (and32_lt ha)) (and32_lt hb)]
  rfl
theorem cast_one (a b c d e : Nat) : (((a : Int) + (b : Int) + (c : Int) + (d : Int)) % 4294967296 + (e : Int)) % 4294967296 = ((add32 (add32 (add32 (add32 a b) c) d) e : Nat) : Int) := by unfold add32; omega
def zeros64 : List Nat := List.replicate 64 0
/-- The first i of the sixteen words of a block's text. -/
def wordsB (s : List UInt8) : Nat → List Nat → List Nat
  | 0, l => l
  | i + 1, l => (wordsB s i l).set i (be4 (s.drop (4 * i)))
def schedV (l : List Nat) (i : Nat) : Nat := add32 (add32 (add32 (nth l (i - 16)) (sgm0 (nth l (i - 15)))) (nth l (i - 7))) (sgm1 (nth l (i - 2)))
/-- The words behind them, so many. -/
def sched : Nat → List Nat → List Nat
  | 0, l => l
  | k + 1, l => (sched k l).set (16 + k) (schedV (sched k l) (16 + k))
def oneS (K W : Nat) (v : List Nat) : Nat := add32 (add32 (add32 (add32 (nth v 7) (bigS1 (nth v 4))) (chS (nth v 4) (nth v 5) (nth v 6))) K) W
def twoS (v : List Nat) : Nat := add32 (bigS0 (nth v 0)) (majS (nth v 0) (nth v 1) (nth v 2))
def roundS (K W : Nat) (v : List Nat) : List Nat :=
  [add32 (oneS K W v) (twoS v), nth v 0, nth v 1, nth v 2, add32 (nth v 3) (oneS K W v), nth v 4, nth v 5, nth v 6]
def roundsS (K W : List Nat) : Nat → List Nat → List Nat
  | 0, v => v
  | k + 1, v => roundS (nth K k) (nth W k) (roundsS K W k v)
def addUp (v : List Nat) : Nat → List Nat → List Nat
  | 0, h => h
  | i + 1, h => (addUp v i h).set i (add32 (nth (addUp v i h) i) (nth v i))
/-- Eight words, a block of 64 bytes taken in. -/
def blockS (K h : List Nat) (s : List UInt8) : List Nat := addUp (roundsS K (sched 48 (wordsB s 16 zeros64)) 64 h) 8 h

theorem words32_nil : Words32 [] := by
  intro i
  show ([][i]?).getD 0 < 4294967296
  simp
theorem words32_cons {a : Nat} {l : List Nat} (ha : a < 4294967296) (hl : Words32 l) : Words32 (a :: l) := by
  intro i
  cases i with
  | zero => exact ha
  | succ i => exact hl i
theorem words32_rep (n : Nat) : Words32 (List.replicate n 0) := by
  induction n with
  | zero => exact words32_nil
  | succ n ih => exact words32_cons (by omega) ih
theorem zeros64_words : Words32 zeros64 := words32_rep 64
theorem zeros64_length : zeros64.length = 64 := List.length_replicate
theorem wordsB_length (s : List UInt8) (i : Nat) (l : List Nat) : (wordsB s i l).length = l.length := by
  induction i with
  | zero => rfl
  | succ i ih => simp [wordsB, ih]
theorem wordsB_words (s : List UInt8) (i : Nat) {l : List Nat} (h : Words32 l) : Words32 (wordsB s i l) := by
  induction i with
  | zero => exact h
  | succ i ih => exact ih.set _ _ (be4_lt _)
theorem sched_length (k : Nat) (l : List Nat) : (sched k l).length = l.length := by
  induction k with
  | zero => rfl
  | succ k ih => simp [sched, ih]
theorem sched_words (k : Nat) {l : List Nat} (h : Words32 l) : Words32 (sched k l) := by
  induction k with
  | zero => exact h
  | succ k ih => exact ih.set _ _ (add32_lt _ _)
theorem roundS_words (K W : Nat) {v : List Nat} (h : Words32 v) : Words32 (roundS K W v) := by
  unfold roundS
  exact words32_cons (add32_lt _ _) (words32_cons (h 0) (words32_cons (h 1) (words32_cons (h 2) (words32_cons (add32_lt _ _) (words32_cons (h 4) (words32_cons (h 5) (words32_cons (h 6) words32_nil)))))))
theorem roundsS_length (K W : List Nat) (k : Nat) {v : List Nat} (h : v.length = 8) : (roundsS K W k v).length = 8 := by
  cases k with
  | zero => exact h
  | succ k => rfl
theorem roundsS_words (K W : List Nat) (k : Nat) {v : List Nat} (h : Words32 v) : Words32 (roundsS K W k v) := by
  induction k with
  | zero => exact h
  | succ k ih => exact roundS_words _ _ ih
theorem addUp_length (v : List Nat) (i : Nat) (h : List Nat) : (addUp v i h).length = h.length := by
  induction i with
  | zero => rfl
  | succ i ih => simp [addUp, ih]
theorem addUp_words (v : List Nat) (i : Nat) {h : List Nat} (hh : Words32 h) : Words32 (addUp v i h) := by
  induction i with
  | zero => exact hh
  | succ i ih => exact ih.set _ _ (add32_lt _ _)
theorem blockS_length (K h : List Nat) (s : List UInt8) : (blockS K h s).length = h.length := addUp_length _ _ _
theorem blockS_words (K : List Nat) {h : List Nat} (s : List UInt8) (hh : Words32 h) : Words32 (blockS K h s) := addUp_words _ _ hh
end Go.Proofs.YtmligbaalbbgiabDoor

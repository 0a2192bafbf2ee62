/- What a block of the stream is, as plain functions on lists of numbers. No condition. -/
import Derived.Test.YtmligbaalbbgiabDoorBase
namespace Go.Proofs.YtmligbaalbbgiabDoor

def stepAdd (l : List Nat) (x y : Nat) : List Nat := l.set x (add32 (nth l x) (nth l y))
def stepTurn (l : List Nat) (x y n : Nat) : List Nat := l.set x (rotl (xor32 (nth l x) (nth l y)) n)
/-- The quarter round. -/
def qround (l : List Nat) (a b c d : Nat) : List Nat :=
  stepTurn (stepAdd (stepTurn (stepAdd (stepTurn (stepAdd (stepTurn (stepAdd l a b) d a 16) c d) b c 12) a b) d a 8) c d) b c 7
theorem stepAdd_length (l : List Nat) (x y : Nat) : (stepAdd l x y).length = l.length := by simp [stepAdd]
theorem stepTurn_length (l : List Nat) (x y n : Nat) : (stepTurn l x y n).length = l.length := by simp [stepTurn]
theorem stepAdd_words {l : List Nat} (h : Words32 l) (x y : Nat) : Words32 (stepAdd l x y) := h.set _ _ (add32_lt _ _)
theorem stepTurn_words {l : List Nat} (h : Words32 l) (x y n : Nat) : Words32 (stepTurn l x y n) := h.set _ _ (rotl_lt _ _ (xor32_lt (h _) (h _)))
theorem qround_length (l : List Nat) (a b c d : Nat) : (qround l a b c d).length = l.length := by simp [qround, stepAdd_length, stepTurn_length]
theorem qround_words {l : List Nat} (h : Words32 l) (a b c d : Nat) : Words32 (qround l a b c d) := by
  unfold qround
  exact stepTurn_words (stepAdd_words (stepTurn_words (stepAdd_words (stepTurn_words (stepAdd_words (stepTurn_words (stepAdd_words h _ _) _ _ _) _ _) _ _ _) _ _) _ _ _) _ _) _ _ _

def init0 : List Nat := [1634760805, 857760878, 2036477234, 1797285236, 0, 0, 0, 0, 0, 0, 0, 0, 0, 0, 0, 0]
theorem init0_words : Words32 init0 := by
  intro i
  by_cases h : i < 16
  · have : ∀ j, j < 16 → nth init0 j < 4294967296 := by decide
    exact this i h
  · simp [nth, init0, List.getD, List.getElem?_eq_none (show [1634760805, 857760878, 2036477234, 1797285236, 0, 0, 0, 0, 0, 0, 0, 0, 0, 0, 0, 0].length ≤ i by simp; omega)]
/-- The first k words of a text, four bytes each, laid from a place on. -/
def fillW (l : List UInt8) (off : Nat) : Nat → List Nat → List Nat
  | 0, s => s
  | k + 1, s => (fillW l off k s).set (off + k) (le4 (l.drop (4 * k)))
theorem fillW_length (l : List UInt8) (off k : Nat) (s : List Nat) : (fillW l off k s).length = s.length := by
  induction k with
  | zero => rfl
  | succ k ih => simp [fillW, ih]
theorem fillW_words (l : List UInt8) (off k : Nat) {s : List Nat} (h : Words32 s) : Words32 (fillW l off k s) := by
  induction k with
  | zero => exact h
  | succ k ih => exact ih.set _ _ (le4_lt _)
/-- The sixteen words that a block begins with. -/
def start16 (key nonce : List UInt8) (n : Nat) : List Nat := fillW nonce 13 3 ((fillW key 4 8 init0).set 12 n)
theorem start16_length (key nonce : List UInt8) (n : Nat) : (start16 key nonce n).length = 16 := by simp [start16, fillW_length, init0]
theorem start16_words (key nonce : List UInt8) (n : Nat) (h : n < 4294967296) : Words32 (start16 key nonce n) := fillW_words _ _ _ ((fillW_words _ _ _ init0_words).set _ _ h)
def colR : Nat → List Nat → List Nat
  | 0, l => l
  | k + 1, l => qround (colR k l) k (4 + k) (8 + k) (12 + k)
def diaR : Nat → List Nat → List Nat
  | 0, l => l
  | k + 1, l => qround (diaR k l) k (4 + (k + 1) % 4) (8 + (k + 2) % 4) (12 + (k + 3) % 4)
theorem colR_length (k : Nat) (l : List Nat) : (colR k l).length = l.length := by
  induction k with
  | zero => rfl
  | succ k ih => simp [colR, qround_length, ih]
theorem diaR_length (k : Nat) (l : List Nat) : (diaR k l).length = l.length := by
  induction k with
  | zero => rfl
  | succ k ih => simp [diaR, qround_length, ih]
theorem colR_words (k : Nat) {l : List Nat} (h : Words32 l) : Words32 (colR k l) := by
  induction k with
  | zero => exact h
  | succ k ih => exact qround_words ih _ _ _ _
theorem diaR_words (k : Nat) {l : List Nat} (h : Words32 l) : Words32 (diaR k l) := by
  induction k with
  | zero => exact h
  | succ k ih => exact qround_words ih _ _ _ _
def rounds : Nat → List Nat → List Nat
  | 0, l => l
  | k + 1, l => diaR 4 (colR 4 (rounds k l))
theorem rounds_length (k : Nat) (l : List Nat) : (rounds k l).length = l.length := by
  induction k with
  | zero => rfl
  | succ k ih => simp [rounds, diaR_length, colR_length, ih]
theorem rounds_words (k : Nat) {l : List Nat} (h : Words32 l) : Words32 (rounds k l) := by
  induction k with
  | zero => exact h
  | succ k ih => exact diaR_words 4 (colR_words 4 ih)
/-- A word's four bytes, the least first. -/
def w4 (x : Nat) : List UInt8 := [UInt8.ofNat x, UInt8.ofNat (x / 256), UInt8.ofNat (x / 65536), UInt8.ofNat (x / 16777216)]
/-- The first k words' bytes of two lists' sums. -/
def outB (t s : List Nat) : Nat → List UInt8
  | 0 => []
  | k + 1 => outB t s k ++ w4 (add32 (nth t k) (nth s k))
theorem outB_length (t s : List Nat) (k : Nat) : (outB t s k).length = 4 * k := by
  induction k with
  | zero => rfl
  | succ k ih => simp [outB, ih, w4]; omega
/-- A block: 64 bytes. -/
def block64 (key nonce : List UInt8) (n : Nat) : List UInt8 := outB (rounds 10 (start16 key nonce n)) (start16 key nonce n) 16
theorem block64_length (key nonce : List UInt8) (n : Nat) : (block64 key nonce n).length = 64 := outB_length _ _ _
theorem w4_cells (a b : Nat) :
    bytesV (w4 (add32 a b)) = [Value.int IntKind.u8 (((a : Int) + (b : Int)) % 256), Value.int IntKind.u8 (((a : Int) + (b : Int)) % 4294967296 / 256 % 256),
      Value.int IntKind.u8 (((a : Int) + (b : Int)) % 4294967296 / 65536 % 256), Value.int IntKind.u8 (((a : Int) + (b : Int)) % 4294967296 / 16777216)] := by
  have e : ∀ (x : Nat) (y : Int), ((x % 256 : Nat) : Int) = y → Value.int IntKind.u8 (((UInt8.ofNat x).toNat : Nat) : Int) = Value.int IntKind.u8 y := by
    intro x y h
    rw [UInt8.toNat_ofNat', h]
  have h : add32 a b < 4294967296 := add32_lt a b
  have h2 : ((add32 a b : Nat) : Int) = ((a : Int) + (b : Int)) % 4294967296 := (cast_add32 a b).symm
  simp only [bytesV, w4, List.map_cons, List.map_nil]
  rw [e (add32 a b) (((a : Int) + (b : Int)) % 256) (by omega), e (add32 a b / 256) (((a : Int) + (b : Int)) % 4294967296 / 256 % 256) (by omega),
    e (add32 a b / 65536) (((a : Int) + (b : Int)) % 4294967296 / 65536 % 256) (by omega), e (add32 a b / 16777216) (((a : Int) + (b : Int)) % 4294967296 / 16777216) (by omega)]

/-- The stream's byte at a place. -/
def ks (key nonce : List UInt8) (i : Nat) : UInt8 := (block64 key nonce (1 + i / 64)).getD (i % 64) 0
/-- A text, the first p bytes of which are taken together with the stream. -/
def xorUpto (key nonce l : List UInt8) (p : Nat) : List UInt8 := l.mapIdx fun i c => if i < p then c ^^^ ks key nonce i else c
def xorS (key nonce l : List UInt8) : List UInt8 := l.mapIdx fun i c => c ^^^ ks key nonce i
theorem xorUpto_length (key nonce l : List UInt8) (p : Nat) : (xorUpto key nonce l p).length = l.length := by simp [xorUpto]
theorem xorS_length (key nonce l : List UInt8) : (xorS key nonce l).length = l.length := by simp [xorS]
theorem xorUpto_zero (key nonce l : List UInt8) : xorUpto key nonce l 0 = l := by
  apply List.ext_getElem (by simp [xorUpto])
  intro i h1 h2
  simp [xorUpto]
theorem xorUpto_all (key nonce l : List UInt8) (p : Nat) (h : l.length ≤ p) : xorUpto key nonce l p = xorS key nonce l := by
  apply List.ext_getElem (by simp [xorUpto, xorS])
  intro i h1 h2
  have : i < p := by simp [xorUpto] at h1; omega
  simp [xorUpto, xorS, this]
theorem xorUpto_set (key nonce l : List UInt8) (p : Nat) (h : p < l.length) : xorUpto key nonce l (p + 1) = (xorUpto key nonce l p).set p (l[p] ^^^ ks key nonce p) := by
  apply List.ext_getElem (by simp [xorUpto])
  intro i h1 h2
  rw [List.getElem_set]
  by_cases e : p = i
  · subst e; simp [xorUpto]
  · by_cases hi : i < p
    · have : i < p + 1 := by omega
      simp [xorUpto, e, hi, this]
    · have : ¬ i < p + 1 := by omega
      simp [xorUpto, e, hi, this]
theorem byteAt_xorUpto (key nonce l : List UInt8) (p : Nat) (h : p < l.length) : byteAt (xorUpto key nonce l p) p = byteAt l p := by
  simp [byteAt, xorUpto, List.getD, h]
theorem xor_xor_self (a b : UInt8) : (a ^^^ b) ^^^ b = a := by
  rw [UInt8.xor_assoc, UInt8.xor_self, UInt8.xor_zero]
/-- Once and once again is nothing. -/
theorem xorS_xorS (key nonce l : List UInt8) : xorS key nonce (xorS key nonce l) = l := by
  apply List.ext_getElem (by simp [xorS])
  intro i h1 h2
  simp [xorS, xor_xor_self]
theorem xorS_getElem (key nonce l : List UInt8) (i : Nat) (h : i < l.length) : (xorS key nonce l)[i]'(by rw [xorS_length]; exact h) = l[i] ^^^ ks key nonce i := by
  simp [xorS]
theorem xorS_take (key nonce l : List UInt8) (n : Nat) : xorS key nonce (l.take n) = (xorS key nonce l).take n := by
  apply List.ext_getElem (by simp [xorS])
  intro i h1 h2
  simp [xorS]
theorem xor_xor_cancel (a b c : UInt8) : (a ^^^ c) ^^^ (b ^^^ c) = a ^^^ b := by
  rw [UInt8.xor_comm b c, ← UInt8.xor_assoc, xor_xor_self]
end Go.Proofs.YtmligbaalbbgiabDoor

/- Where the reference reckons a sum: what is laid, and what a write leaves. No condition. -/
import Derived.Test.YtmligbaalbbgiabDoorProg
import Derived.Test.YtmligbaalbbgiabDoorBase
import Derived.Test.YtmligbaalbbgiabDoorShaT
import Derived.Test.YtmligbaalbbgiabDoorShaR
import Derived.Test.YtmligbaalbbgiabDoorGrow
import Derived.Test.YtmligbaalbbgiabDoorSum2
import Derived.Test.YtmligbaalbbgiabDoorSum3
namespace Go.Proofs.YtmligbaalbbgiabDoor
open Go.RowKit

/-- The reference's block at r, the eight words at H. -/
structure RIn (w wr : World) (r H : Nat) (h : List Nat) : Prop where
  ref : Blk wr r 125 (words (h0S ++ kS))
  box : Blk wr H 122 (words h)
  low : r < w.heap.size
  at_ : H = w.heap.size
  frame : Below w.heap.size w wr
section
variable {w wr : World} {r H : Nat} {h : List Nat}
theorem RIn.lt' (b : RIn w wr r H h) : H + 1 ≤ wr.heap.size := b.box.lt
theorem RIn.drewN (b : RIn w wr r H h) (n : Nat) : RIn w (wr.drewN n) r H h := ⟨b.ref.drewN n, b.box.drewN n, b.low, b.at_, below_drewN b.frame n⟩
theorem RIn.alloc (b : RIn w wr r H h) (o : Obj) : RIn w (wr.alloc o) r H h := ⟨b.ref.alloc o, b.box.alloc o, b.low, b.at_, b.frame.alloc b.frame.size o⟩
theorem RIn.kept {w1 : World} {row : Option Nat} (b : RIn w wr r H h) (hg : wr.grownBy w1 row) (hr : ∀ k, row = some k → H + 1 ≤ k) : RIn w w1 r H h := by
  have h1 := b.at_
  have h2 := b.low
  refine ⟨b.ref.grown hg (fun e => ?_), b.box.grown hg (fun e => ?_), h2, h1, b.frame.grown hg b.frame.size (fun k hk => ?_)⟩
  · have := hr _ e.symm; omega
  · have := hr _ e.symm; omega
  · have := hr k hk; omega
theorem RIn.put (b : RIn w wr r H h) (i x : Nat) : RIn w (wr.setCell ⟨H, i, none⟩ (.int .u32 (x : Int))) r H (h.set i x) := by
  have h1 := b.at_
  have h2 := b.low
  refine ⟨b.ref.far (by show r ≠ H; omega) _, by rw [b.box.setWord]; exact b.box.setRow _, h2, h1, b.frame.setCell (by show w.heap.size ≤ H; omega) _⟩
theorem RIn.round (b : RIn w wr r H h) {i : Nat} (hi : i < 64) : wr.cell? ⟨r, 8 + i, none⟩ = some (.int .u32 ((nth kS i : Nat) : Int)) := by
  rw [b.ref.word (i := 8 + i) (by rw [List.length_append]; have : h0S.length = 8 := rfl; have : kS.length = 64 := rfl; omega)]
  congr 3
  unfold nth List.getD
  rw [List.getElem?_append_right (by show 8 ≤ 8 + i; omega)]
  rw [show 8 + i - h0S.length = i from by show 8 + i - 8 = i; omega]
end
theorem Grow.byte {w : World} {B g n cap : Nat} {l : List UInt8} (h : Grow w B (.slice (some ⟨g, 0, none⟩) n cap) n (bytesV l)) (i : Nat) (hi : i < l.length) : w.cell? ⟨g, i, none⟩ = some (.int .u8 ((byteAt l i : Nat) : Int)) := by
  obtain ⟨g', cap', e1, _, _, _, _, h5, _⟩ := h
  cases e1
  exact h5 i _ (bytesV_get l i hi)
/-- The same, the text's row at g, and the 64 words at W. -/
structure RW (w wr : World) (r H g Q cap W : Nat) (h L : List Nat) (p : List UInt8) : Prop where
  base : RIn w wr r H h
  txt : Grow wr (H + 1) (.slice (some ⟨g, 0, none⟩) Q cap) Q (bytesV p)
  row : Blk wr W 123 (words L)
  gw : g < W
section
variable {w wr : World} {r H g Q cap W : Nat} {h L : List Nat} {p : List UInt8}
theorem RW.hg (b : RW w wr r H g Q cap W h L p) : H + 1 ≤ g := (b.txt.lt g rfl).1
theorem RW.drewN (b : RW w wr r H g Q cap W h L p) (n : Nat) : RW w (wr.drewN n) r H g Q cap W h L p := ⟨b.base.drewN n, b.txt.drewN n, b.row.drewN n, b.gw⟩
theorem RW.new (b : RIn w wr r H h) (t : Grow wr (H + 1) (.slice (some ⟨g, 0, none⟩) Q cap) Q (bytesV p)) (L : List Nat) : RW w (wr.alloc (.cells (words L) 123)) r H g Q cap wr.heap.size h L p :=
  ⟨b.alloc _, t.alloc _, Blk.new _ _ _, (t.lt g rfl).2⟩
theorem RW.put (b : RW w wr r H g Q cap W h L p) (i x : Nat) : RW w (wr.setCell ⟨W, i, none⟩ (.int .u32 (x : Int))) r H g Q cap W h (L.set i x) p := by
  have h1 := b.hg
  have h2 := b.gw
  have hgb : wr.grownBy (wr.setCell ⟨W, i, none⟩ (.int .u32 (x : Int))) (some W) := grownBy_setCell (w := wr) ⟨rfl, rfl, rfl, Nat.le_refl _, fun _ _ _ => rfl⟩ i _
  refine ⟨b.base.kept hgb (fun k hk => by cases hk; omega), b.txt.kept hgb (fun e => ?_), by rw [b.row.setWord]; exact b.row.setRow _, h2⟩
  have e2 : g = W := by simpa [Value.ownBlock] using e
  omega
theorem RW.putH (b : RW w wr r H g Q cap W h L p) (i x : Nat) : RW w (wr.setCell ⟨H, i, none⟩ (.int .u32 (x : Int))) r H g Q cap W (h.set i x) L p := by
  have h1 := b.hg
  have h2 := b.gw
  have hgb : wr.grownBy (wr.setCell ⟨H, i, none⟩ (.int .u32 (x : Int))) (some H) := grownBy_setCell (w := wr) ⟨rfl, rfl, rfl, Nat.le_refl _, fun _ _ _ => rfl⟩ i _
  refine ⟨b.base.put i x, b.txt.kept hgb (fun e => ?_), b.row.far (by show W ≠ H; omega) _, h2⟩
  have e2 : g = H := by simpa [Value.ownBlock] using e
  omega
end
/-- A word of four bytes, the first j of them. -/
def beN (l : List UInt8) : Nat → Nat
  | 0 => 0
  | j + 1 => beN l j * 256 + byteAt l j
theorem beN_4 (l : List UInt8) : beN l 4 = be4 l := by
  simp only [beN, be4]
  omega
theorem beN_lt (l : List UInt8) (j : Nat) (h : j ≤ 4) : beN l j < 4294967296 := by
  have h0 := byteAt_lt l 0; have h1 := byteAt_lt l 1; have h2 := byteAt_lt l 2; have h3 := byteAt_lt l 3
  have : j = 0 ∨ j = 1 ∨ j = 2 ∨ j = 3 ∨ j = 4 := by omega
  rcases this with rfl | rfl | rfl | rfl | rfl <;> simp only [beN] <;> omega
theorem beN_step (l : List UInt8) (j : Nat) (h : j < 4) : ((beN l j : Int) * 256 % 4294967296 + (byteAt l j : Int)) % 4294967296 = ((beN l (j + 1) : Nat) : Int) := by
  have h1 := beN_lt l (j + 1) (by omega)
  have h2 := beN_lt l j (by omega)
  simp only [beN] at h1 ⊢
  omega
theorem nth_zeros (n j : Nat) : nth (List.replicate n 0) j = 0 := by
  unfold nth List.getD
  rw [List.getElem?_replicate]
  split <;> rfl
theorem wordsB_zero (s : List UInt8) (i j : Nat) (h : i ≤ j) : nth (wordsB s i zeros64) j = 0 := by
  induction i with
  | zero =>
    exact nth_zeros 64 j
  | succ i ih =>
    rw [wordsB, nth_set_other _ _ _ _ (by omega)]
    exact ih (by omega)
theorem set_same (l : List Nat) (i : Nat) (h : nth l i = 0) : l.set i 0 = l := by
  apply List.ext_getElem (by simp)
  intro k h1 h2
  rw [List.getElem_set]
  by_cases hk : i = k
  · subst hk
    simp [nth, List.getD, h2] at h
    simp [h]
  · simp [hk]
/-- A block's 64 words, the first t of them told. -/
def sofar (c : List UInt8) (t : Nat) : List Nat := if t ≤ 16 then wordsB c t zeros64 else sched (t - 16) (wordsB c 16 zeros64)
theorem sofar_length (c : List UInt8) (t : Nat) : (sofar c t).length = 64 := by
  unfold sofar
  split
  · rw [wordsB_length, zeros64_length]
  · rw [sched_length, wordsB_length, zeros64_length]
theorem sofar_words (c : List UInt8) (t : Nat) : Words32 (sofar c t) := by
  unfold sofar
  split
  · exact wordsB_words _ _ zeros64_words
  · exact sched_words _ (wordsB_words _ _ zeros64_words)
theorem sofar_low {c : List UInt8} {t : Nat} (h : t < 16) : sofar c (t + 1) = (sofar c t).set t (be4 (c.drop (4 * t))) := by
  unfold sofar
  rw [if_pos (by omega), if_pos (by omega)]
  rfl
theorem sofar_zero {c : List UInt8} {t : Nat} (h : t < 16) : nth (sofar c t) t = 0 := by
  unfold sofar
  rw [if_pos (by omega)]
  exact wordsB_zero _ _ _ (Nat.le_refl _)
theorem sofar_high {c : List UInt8} {t : Nat} (h : 16 ≤ t) : sofar c (t + 1) = (sofar c t).set t (schedV (sofar c t) t) := by
  have e : sofar c t = sched (t - 16) (wordsB c 16 zeros64) := by
    unfold sofar
    by_cases h1 : t ≤ 16
    · rw [if_pos h1, show t = 16 from by omega]; rfl
    · rw [if_neg h1]
  rw [e]
  unfold sofar
  rw [if_neg (by omega), show t + 1 - 16 = (t - 16) + 1 from by omega]
  rw [sched, show 16 + (t - 16) = t from by omega]
theorem sofar_64 (c : List UInt8) : sofar c 64 = sched 48 (wordsB c 16 zeros64) := rfl
theorem blockS_sofar (K h : List Nat) (c : List UInt8) : blockS K h c = addUp (roundsS K (sofar c 64) 64 h) 8 h := rfl
theorem sched_ref (s1 w7 s0 w16 : Nat) : ((((s1 : Int) + (w7 : Int)) % 4294967296 + (s0 : Int)) % 4294967296 + (w16 : Int)) % 4294967296 = ((add32 (add32 (add32 w16 s0) w7) s1 : Nat) : Int) := by
  unfold add32
  omega
theorem beN_step' (l : List UInt8) (j : Nat) (h : j < 4) (B D : Nat) (hB : B = beN l j) (hD : D = byteAt l j) : ((B : Int) * 256 + (D : Int)) % 4294967296 = ((beN l (j + 1) : Nat) : Int) := by
  have h1 := beN_lt l (j + 1) (by omega)
  simp only [beN] at h1 ⊢
  omega
theorem beN_step2 (l : List UInt8) (j : Nat) (h : j < 4) (B D : Nat) (hB : B = beN l j) (hD : D = byteAt l j) : (B : Int) * 256 % 4294967296 + (D : Int) = ((beN l (j + 1) : Nat) : Int) := by
  have h1 := beN_lt l (j + 1) (by omega)
  simp only [beN] at h1 ⊢
  omega
theorem sched_ref' (s1 w7 s0 w16 : Nat) : ((s1 : Int) + (w7 : Int) + (s0 : Int) + (w16 : Int)) % 4294967296 = ((add32 (add32 (add32 w16 s0) w7) s1 : Nat) : Int) := by
  unfold add32
  omega
theorem chref_bits {e f g : Nat} (he : e < 4294967296) (hf : f < 4294967296) (hg : g < 4294967296) :
    bits .xor .u32 (g : Int) (bits .and .u32 (e : Int) (bits .xor .u32 (f : Int) (g : Int))) = ((chS e f g : Nat) : Int) := by
  rw [bits_xor32 hf hg, bits_and32 he (xor32_lt hf hg), bits_xor32 hg (and32_lt he), ch_ref he hg]
theorem majref_bits {a b c : Nat} (ha : a < 4294967296) (hb : b < 4294967296) (hc : c < 4294967296) :
    bits .or .u32 (bits .and .u32 (a : Int) (b : Int)) (bits .and .u32 (c : Int) (bits .or .u32 (a : Int) (b : Int))) = ((majS a b c : Nat) : Int) := by
  have hab : a ||| b < 4294967296 := Nat.or_lt_two_pow (n := 32) ha hb
  rw [u32_or_nat a b ha hb, bits_and32 ha hb, bits_and32 hc hab, u32_or_nat _ _ (and32_lt ha) (and32_lt hc), maj_ref]
theorem cast_add5 (a b c d e : Nat) : ((a : Int) + (b : Int) + (c : Int) + (d : Int) + (e : Int)) % 4294967296 = ((add32 (add32 (add32 (add32 a b) c) d) e : Nat) : Int) := by unfold add32; omega
theorem words8 {l : List Nat} (h : l.length = 8) : words l = #[.int .u32 ((nth l 0 : Nat) : Int), .int .u32 ((nth l 1 : Nat) : Int), .int .u32 ((nth l 2 : Nat) : Int), .int .u32 ((nth l 3 : Nat) : Int), .int .u32 ((nth l 4 : Nat) : Int), .int .u32 ((nth l 5 : Nat) : Int), .int .u32 ((nth l 6 : Nat) : Int), .int .u32 ((nth l 7 : Nat) : Int)] := by
  match l, h with
  | [a, b, c, d, e, f, g, k], _ => rfl
theorem string_four {P : Program} (w : World) (src dst e x : Nat) (hx : x < 4294967296) (hs : P.underlying src = some (.slice e)) (he : P.underlying e = some (.int .u8)) (hd : P.underlying dst = some .string) :
    (convert src dst (.slice (some ⟨w.heap.size, 0, none⟩) 4 4)).run P (w.alloc (.cells #[.int .u8 ((x : Int) / 16777216), .int .u8 ((x : Int) / 65536 % 256), .int .u8 ((x : Int) / 256 % 256), .int .u8 ((x : Int) % 256)] e))
      = .ok (.string (ofl [UInt8.ofNat (x / 16777216), UInt8.ofNat (x / 65536 % 256), UInt8.ofNat (x / 256 % 256), UInt8.ofNat (x % 256)])) (w.alloc (.cells #[.int .u8 ((x : Int) / 16777216), .int .u8 ((x : Int) / 65536 % 256), .int .u8 ((x : Int) / 256 % 256), .int .u8 ((x : Int) % 256)] e)) := by
  refine run_string_own (base := w.heap.size) (e := e) (n := 4) hs he hd ?_
  have := World.ownsRow_lit (e := e) (size := 1) w #[Value.int .u8 ((x : Int) / 16777216), .int .u8 ((x : Int) / 65536 % 256), .int .u8 ((x : Int) / 256 % 256), .int .u8 ((x : Int) % 256)] 4 (Nat.le_refl _) (by decide) rfl
  rw [bytesV_four x hx]
  exact this
section
variable {a b c d e f g k : Nat}
theorem nth8_0 : nth [a, b, c, d, e, f, g, k] 0 = a := rfl
theorem nth8_1 : nth [a, b, c, d, e, f, g, k] 1 = b := rfl
theorem nth8_2 : nth [a, b, c, d, e, f, g, k] 2 = c := rfl
theorem nth8_3 : nth [a, b, c, d, e, f, g, k] 3 = d := rfl
theorem nth8_4 : nth [a, b, c, d, e, f, g, k] 4 = e := rfl
theorem nth8_5 : nth [a, b, c, d, e, f, g, k] 5 = f := rfl
theorem nth8_6 : nth [a, b, c, d, e, f, g, k] 6 = g := rfl
theorem nth8_7 : nth [a, b, c, d, e, f, g, k] 7 = k := rfl
end
section
variable (K W : Nat) (v : List Nat)
theorem nth_round0 : nth (roundS K W v) 0 = add32 (oneS K W v) (twoS v) := nth8_0
theorem nth_round1 : nth (roundS K W v) 1 = nth v 0 := nth8_1
theorem nth_round2 : nth (roundS K W v) 2 = nth v 1 := nth8_2
theorem nth_round3 : nth (roundS K W v) 3 = nth v 2 := nth8_3
theorem nth_round4 : nth (roundS K W v) 4 = add32 (nth v 3) (oneS K W v) := nth8_4
theorem nth_round5 : nth (roundS K W v) 5 = nth v 4 := nth8_5
theorem nth_round6 : nth (roundS K W v) 6 = nth v 5 := nth8_6
theorem nth_round7 : nth (roundS K W v) 7 = nth v 6 := nth8_7
end
end Go.Proofs.YtmligbaalbbgiabDoor

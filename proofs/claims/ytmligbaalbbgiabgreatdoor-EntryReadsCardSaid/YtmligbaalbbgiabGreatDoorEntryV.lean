/- The package variables that numerals lean on, and strconv.Itoa, strconv.Atoi, strings.Split as this seat uses them. Condition: the variables hold what is laid in them. -/
import Derived.Test.YtmligbaalbbgiabGreatDoorProg
import Derived.Test.YtmligbaalbbgiabGreatDoorEntryP
import Derived.Lib.SmallJoins
namespace Go.Proofs.YtmligbaalbbgiabGreatDoor
open Go.RowKit Go.Sort

/-- The variables hold what is laid in them. -/
structure LaidN (w : World) : Prop where
  pow : Lib.TabIs Tryz.prog w "internal/strconv.uint64pow10" .u64 Lib.pow10Tab
  synt : ∃ tp p, w.var? Tryz.prog "strconv.ErrSyntax" = some #[.iface tp p]
  rng : ∃ tp p, w.var? Tryz.prog "strconv.ErrRange" = some #[.iface tp p]
  mx : ∃ m : Int, w.cell? ⟨1, 0, none⟩ = some (.int .i64 m)
theorem pow_at : Tryz.prog.globalNamed "internal/strconv.uint64pow10" = some 4 := by kernel_rfl
theorem synt_at : Tryz.prog.globalNamed "strconv.ErrSyntax" = some 2 := by kernel_rfl
theorem rng_at : Tryz.prog.globalNamed "strconv.ErrRange" = some 3 := by kernel_rfl
theorem var_lt {w : World} {n : String} {g : Nat} {cs : Array Value} (hg : Tryz.prog.globalNamed n = some g) (h : w.var? Tryz.prog n = some cs) : g < w.heap.size := by
  unfold World.var? at h
  rw [hg] at h
  rcases Nat.lt_or_ge g w.heap.size with h1 | h1
  · exact h1
  · simp [Array.getElem?_eq_none h1] at h
theorem LaidN.below {w w' : World} (h : LaidN w) (hb : Below w.heap.size w w') : LaidN w' where
  pow := var?_below hb pow_at (var_lt pow_at h.pow) h.pow
  synt := by obtain ⟨tp, p, e⟩ := h.synt; exact ⟨tp, p, var?_below hb synt_at (var_lt synt_at e) e⟩
  rng := by obtain ⟨tp, p, e⟩ := h.rng; exact ⟨tp, p, var?_below hb rng_at (var_lt rng_at e) e⟩
  mx := by obtain ⟨m, e⟩ := h.mx; exact ⟨m, by rw [hb.cell (p := ⟨1, 0, none⟩) (block_lt_of_cell e)]; exact e⟩
theorem grow_below (w : World) (k : Nat) (os : Array Obj) : Below w.heap.size w (grow (w.drewN k) os) :=
  ⟨rfl, rfl, rfl, by simp [grow], fun j hj => by simp [grow, Array.getElem?_append, hj]⟩
theorem itoa_any (n : Int) (h0 : -9223372036854775808 ≤ n) (h1 : n ≤ 9223372036854775807) {w : World} (h : LaidN w) : Calls Tryz.prog 21 #[.int .i64 n] w fun e w' => e = .returned (.string (ofl (Lib.itoa n))) ∧ Below w.heap.size w w' := by
  refine (Go.Proofs.Tryz.strconv_Itoa n h0 h1 w h.pow).mono ?_
  rintro e w' ⟨rfl, k, os, rfl⟩
  exact ⟨rfl, grow_below _ _ _⟩
/-- What comes of a numeral. -/
theorem atoi_ok (t : ByteArray) (ht : t.size ≤ 281474976710656) (v : Int) (hc : Lib.atoiAll (bl t) = .ok v) (w : World) : Calls Tryz.prog 31 #[.string t] w fun e w' => e = .returned (.tuple #[.int .i64 v, .nilIface]) ∧ Below w.heap.size w w' := by
  refine (Go.Proofs.Tryz.strconv_Atoi_ok t (by omega) v hc w).mono ?_
  rintro e w' ⟨rfl, hw⟩
  refine ⟨rfl, ?_⟩
  rcases hw with rfl | ⟨s, rfl⟩
  · exact Below.refl _ _
  · exact Go.Joins.below_bytesWorld _ _ _ _ (Nat.le_refl _)
theorem atoi_no (t : ByteArray) (ht : t.size ≤ 281474976710656) (hn : ∀ v, Lib.atoiAll (bl t) ≠ .ok v) {w : World} (h : LaidN w) : Calls Tryz.prog 31 #[.string t] w fun e w' => ∃ v N, e = .returned (.tuple #[.int .i64 v, .iface 102 (.pointer (some ⟨N, 0, none⟩))]) ∧ Below w.heap.size w w' := by
  rcases num_cases (Lib.atoiAll (bl t)) with ⟨v, hc⟩ | hc | hc
  · exact absurd hc (hn v)
  · obtain ⟨tp, p, hv⟩ := h.synt
    refine (Go.Proofs.Tryz.strconv_Atoi_syntax_var t ht hc tp p w hv).mono ?_
    rintro e w' ⟨N, rfl, -, -, hb⟩
    exact ⟨_, N, rfl, hb⟩
  · obtain ⟨tp, p, hv⟩ := h.rng
    refine (Go.Proofs.Tryz.strconv_Atoi_range_var t ht hc tp p w hv).mono ?_
    rintro e w' ⟨N, rfl, -, -, hb⟩
    exact ⟨_, N, rfl, hb⟩
/-- A number that is read is an int. -/
theorem atoi_int {l : List UInt8} {v : Int} (h : Lib.atoiAll l = .ok v) : -9223372036854775808 ≤ v ∧ v ≤ 9223372036854775807 := by
  unfold Lib.atoiAll at h
  split at h
  · cases h
  · dsimp only at h
    split at h
    · cases h
    · cases h
    · split at h
      · cases h
      · split at h
        · cases h
        · injection h with h
          split at h <;> omega
/-- The pieces lie in a new block. -/
theorem split_any (s : ByteArray) (c : UInt8) (hs : s.size < 4294967281) {w : World} (h : LaidN w) : Calls Tryz.prog 30 #[.string s, .string ⟨#[c]⟩] w fun e w' =>
    e = .returned (.slice (some ⟨w.heap.size, 0, none⟩) (cutL c (bl s)).length (cutL c (bl s)).length) ∧ w' = w.alloc (.cells ((cutL c (bl s)).map fun l => Value.string (ofl l)).toArray 9) := by
  obtain ⟨m, hm⟩ := h.mx
  have hcount : Lib.countB s ⟨#[c]⟩ = Lib.count (bl s) [c] := rfl
  have hsp : Lib.splitB ⟨#[c]⟩ 0 (Lib.countB s ⟨#[c]⟩) s = (cutL c (bl s)).map ofl := by
    have h1 := Lib.splitB_data ⟨#[c]⟩ 0 (Lib.countB s ⟨#[c]⟩) s
    rw [hcount] at h1 ⊢
    have h2 : Lib.splitK [c] 0 (Lib.count (bl s) [c]) (bl s) = cutL c (bl s) := splitK_cut c (bl s)
    have h3 : (Lib.splitB ⟨#[c]⟩ 0 (Lib.count (bl s) [c]) s).map bl = cutL c (bl s) := h1.trans h2
    rw [← h3, List.map_map]
    conv => lhs; rw [← List.map_id (Lib.splitB ⟨#[c]⟩ 0 (Lib.count (bl s) [c]) s)]
    refine List.map_congr_left fun a _ => ?_
    exact (ofl_bl a).symm
  have hlen : Lib.countB s ⟨#[c]⟩ + 1 = (cutL c (bl s)).length := by
    have := Lib.splitB_all ⟨#[c]⟩ (Nat.le_refl 1) 0 _ s rfl
    rw [hsp, List.length_map] at this
    omega
  refine (Go.Proofs.Tryz.strings_Split s ⟨#[c]⟩ m w hs hm (Nat.le_refl 1)).mono ?_
  rintro e w' ⟨rfl, rfl⟩
  rw [hsp, hlen, List.map_map]
  exact ⟨rfl, rfl⟩
theorem split_blk (s : ByteArray) (c : UInt8) (hs : s.size < 4294967281) {w : World} (h : LaidN w) : Calls Tryz.prog 30 #[.string s, .string ⟨#[c]⟩] w fun e w' =>
    e = .returned (.slice (some ⟨w.heap.size, 0, none⟩) (cutL c (bl s)).length (cutL c (bl s)).length) ∧ Blk w' w.heap.size 9 ((cutL c (bl s)).map fun l => Value.string (ofl l)).toArray ∧ Below w.heap.size w w' := by
  refine (split_any s c hs h).mono ?_
  rintro e w' ⟨rfl, rfl⟩
  exact ⟨rfl, Blk.new _ _ _, (Below.refl _ _).alloc (Nat.le_refl _) _⟩
end Go.Proofs.YtmligbaalbbgiabGreatDoor

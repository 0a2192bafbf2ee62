/- How a device lies in memory, and what it takes that it lies there still. It states nothing about the program. -/
import Derived.Test.YtmligbaalbbgiabDoorProg
import Derived.Test.YtmligbaalbbgiabDoorBase
import Derived.Test.YtmligbaalbbgiabDoorZoneS
namespace Go.Proofs.YtmligbaalbbgiabDoor
open Go.RowKit

def nilS : Value := .slice none 0 0
/-- Texts as cells; writes as cells. -/
def strsV (l : List ByteArray) : List Value := l.map Value.string
theorem strsV_length (l : List ByteArray) : (strsV l).length = l.length := by simp [strsV]
theorem strsV_append (a b : List ByteArray) : strsV (a ++ b) = strsV a ++ strsV b := by simp [strsV]
theorem strsV_take (l : List ByteArray) (n : Nat) : strsV (l.take n) = (strsV l).take n := by simp [strsV, List.map_take]
def natV (n : Nat) : Value := .int .i64 (n : Int)
def writesV (q : List (Nat × ByteArray)) : List Value := q.flatMap fun p => [natV p.1, Value.string p.2]
theorem writesV_append (a b : List (Nat × ByteArray)) : writesV (a ++ b) = writesV a ++ writesV b := by simp [writesV]
theorem writesV_length (q : List (Nat × ByteArray)) : (writesV q).length = q.length * 2 := by
  induction q with
  | nil => rfl
  | cons p q ih => simp only [writesV, List.flatMap_cons, List.length_append, List.length_cons, List.length_nil] at ih ⊢; omega

/-- A device's cells: eight zones, how many are sure, two slots, the rest. -/
def dCells (zs : List Value) (S : List Nat) (T : List ByteArray) (tl : List Value) : Array Value := (zs ++ (S.map natV ++ (T.map Value.string ++ tl))).toArray
section
variable {zs : List Value} {S : List Nat} {T : List ByteArray} {tl : List Value}
theorem dCells_z (hz : zs.length = 8) (z : Nat) (h : z < 8) : (dCells zs S T tl)[z]? = some (zs.getD z nilS) := by
  simp [dCells, List.getElem?_append, hz, h, List.getD]
theorem dCells_s (hz : zs.length = 8) (hS : S.length = 8) (z : Nat) (h : z < 8) : (dCells zs S T tl)[8 + z]? = some (natV (S.getD z 0)) := by
  simp [dCells, List.getElem?_append, hz, hS, h, List.getD]
theorem dCells_t (hz : zs.length = 8) (hS : S.length = 8) (hT : T.length = 2) (k : Nat) (h : k < 2) : (dCells zs S T tl)[16 + k]? = some (.string (T.getD k ⟨#[]⟩)) := by
  have h2 : ¬ 16 + k < 8 := by omega
  have h3 : ¬ 16 + k - 8 < 8 := by omega
  have h4 : 16 + k - 8 - 8 = k := by omega
  simp [dCells, List.getElem?_append, hz, hS, hT, h2, h3, h4, h, List.getD]
theorem dCells_r (hz : zs.length = 8) (hS : S.length = 8) (hT : T.length = 2) (k : Nat) : (dCells zs S T tl)[18 + k]? = tl[k]? := by
  have h2 : ¬ 18 + k < 8 := by omega
  have h3 : ¬ 18 + k - 8 < 8 := by omega
  have h4 : ¬ 18 + k - 8 - 8 < 2 := by omega
  have h5 : 18 + k - 8 - 8 - 2 = k := by omega
  simp [dCells, List.getElem?_append, hz, hS, hT, h2, h3, h4, h5]
theorem dCells_setZ (hz : zs.length = 8) (z : Nat) (h : z < 8) (u : Value) : (dCells zs S T tl).setIfInBounds z u = dCells (zs.set z u) S T tl := by
  simp [dCells, hz, h]
theorem dCells_setS (hz : zs.length = 8) (hS : S.length = 8) (z : Nat) (h : z < 8) (n : Nat) : (dCells zs S T tl).setIfInBounds (8 + z) (natV n) = dCells zs (S.set z n) T tl := by
  simp [dCells, hz, hS, h, List.map_set]
theorem dCells_setT (hz : zs.length = 8) (hS : S.length = 8) (hT : T.length = 2) (k : Nat) (h : k < 2) (s : ByteArray) : (dCells zs S T tl).setIfInBounds (16 + k) (.string s) = dCells zs S (T.set k s) tl := by
  have h2 : ¬ 16 + k < 8 := by omega
  have h3 : ¬ 16 + k - 8 < 8 := by omega
  have h4 : 16 + k - 8 - 8 = k := by omega
  simp [dCells, List.set_append, hz, hS, hT, h2, h3, h4, h, List.map_set]
theorem dCells_setR (hz : zs.length = 8) (hS : S.length = 8) (hT : T.length = 2) (k : Nat) (u : Value) : (dCells zs S T tl).setIfInBounds (18 + k) u = dCells zs S T (tl.set k u) := by
  have h2 : ¬ 18 + k < 8 := by omega
  have h3 : ¬ 18 + k - 8 < 8 := by omega
  have h4 : ¬ 18 + k - 8 - 8 < 2 := by omega
  have h5 : 18 + k - 8 - 8 - 2 = k := by omega
  simp [dCells, List.set_append, hz, hS, hT, h2, h3, h4, h5]
end

/-- Only blocks of m, and new ones, are others. -/
structure Moves (w w' : World) (m m' : Nat → Prop) : Prop where
  os : w'.os = w.os
  tape : w'.tape = w.tape
  output : w'.output = w.output
  size : w.heap.size ≤ w'.heap.size
  block : ∀ k, k < w.heap.size → ¬ m k → w'.heap[k]? = w.heap[k]?
  sub : ∀ k, m' k → m k ∨ w.heap.size ≤ k
theorem Moves.refl (w : World) (m : Nat → Prop) : Moves w w m m := ⟨rfl, rfl, rfl, Nat.le_refl _, fun _ _ _ => rfl, fun _ h => .inl h⟩
theorem Moves.trans {w w1 w2 : World} {m m1 m2 : Nat → Prop} (h : Moves w w1 m m1) (k : Moves w1 w2 m1 m2) : Moves w w2 m m2 :=
  ⟨k.os.trans h.os, k.tape.trans h.tape, k.output.trans h.output, Nat.le_trans h.size k.size,
    fun j hj hm => (k.block j (Nat.lt_of_lt_of_le hj h.size) (fun h1 => (h.sub j h1).elim hm (fun h2 => by omega))).trans (h.block j hj hm),
    fun j hj => (k.sub j hj).elim (fun h1 => h.sub j h1) (fun h1 => .inr (Nat.le_trans h.size h1))⟩
theorem Moves.of_below {w w' : World} (h : Below w.heap.size w w') (m : Nat → Prop) : Moves w w' m m :=
  ⟨h.os, h.tape, h.output, h.size, fun k hk _ => h.block k hk, fun _ h => .inl h⟩
theorem Moves.below {w w' : World} {m m' : Nat → Prop} (h : Moves w w' m m') {B : Nat} (hm : ∀ k, m k → B ≤ k) (hB : B ≤ w.heap.size) : Below B w w' :=
  ⟨h.os, h.tape, h.output, h.size, fun k hk => h.block k (Nat.lt_of_lt_of_le hk hB) (fun h1 => by have := hm k h1; omega)⟩
theorem Moves.setCell (w : World) (m : Nat → Prop) {p : Addr} (hp : m p.block) (u : Value) : Moves w (w.setCell p u) m m :=
  ⟨rfl, rfl, rfl, by simp [World.setCell], fun k _ hm => Below.heap_setCell w p u k (by rintro rfl; exact hm hp), fun _ h => .inl h⟩
theorem Moves.drewN {w w' : World} {m m' : Nat → Prop} (h : Moves w w' m m') (n : Nat) : Moves w (w'.drewN n) m m' := ⟨h.os, h.tape, h.output, h.size, h.block, h.sub⟩
theorem Moves.ofDrewN {w w' : World} {m m' : Nat → Prop} {n : Nat} (h : Moves (w.drewN n) w' m m') : Moves w w' m m' := ⟨h.os, h.tape, h.output, h.size, h.block, h.sub⟩
/-- An append to a row of the device's. -/
theorem Moves.grown {w w' : World} {row : Option Nat} (h : w.grownBy w' row) (m : Nat → Prop) (hr : ∀ g, row = some g → m g) : Moves w w' m (fun k => m k ∨ (w.heap.size ≤ k ∧ k < w'.heap.size)) :=
  ⟨h.os, h.tape, h.output, h.size, fun k hk hm => h.block k hk (fun he => hm (hr k he.symm)), fun _ h => h.elim .inl (fun h => .inr h.1)⟩

theorem ownsRow_same {w w' : World} {base : Nat} {e : TypeId} {size n : Nat} {v : Value} {xs : List Value} (h : w.ownsRow base e size v n xs) (hb : ∀ g, v.ownBlock = some g → w'.heap[g]? = w.heap[g]?) : w'.ownsRow base e size v n xs := by
  refine ⟨h.1, ?_⟩
  rcases h.2 with h2 | ⟨g, cap, cur, rfl, h3, h4, h5⟩
  · exact .inl h2
  · exact .inr ⟨g, cap, cur, rfl, h3, (hb g rfl).trans h4, h5⟩

/-- Zones' blocks in rows of the device's own. -/
structure ZRows (w : World) (base : Nat) (zs : List Value) (L : List (List ByteArray)) (m : Nat → Prop) : Prop where
  len : zs.length = 8
  row : ∀ z, z < 8 → w.ownsRow base 9 1 (zs.getD z nilS) (L.getD z []).length (strsV (L.getD z []))
  own : ∀ z, z < 8 → ∀ g, (zs.getD z nilS).ownBlock = some g → m g
  apart : ∀ z j, z < 8 → j < 8 → z ≠ j → ∀ g, (zs.getD z nilS).ownBlock = some g → (zs.getD j nilS).ownBlock ≠ some g
theorem ZRows.same {w w' : World} {base : Nat} {zs : List Value} {L : List (List ByteArray)} {m m' : Nat → Prop} (h : ZRows w base zs L m) (hb : ∀ z, z < 8 → ∀ g, (zs.getD z nilS).ownBlock = some g → w'.heap[g]? = w.heap[g]?)
    (hm : ∀ k, m k → m' k) : ZRows w' base zs L m' :=
  ⟨h.len, fun z hz => ownsRow_same (h.row z hz) (hb z hz), fun z hz g hg => hm g (h.own z hz g hg), h.apart⟩
/-- One zone's row is another one. -/
theorem ZRows.set {w w' : World} {base : Nat} {zs : List Value} {L : List (List ByteArray)} {m m' : Nat → Prop} (h : ZRows w base zs L m) (hL : L.length = 8)
    (z : Nat) (hz : z < 8) (v : Value) (l : List ByteArray) (hb : ∀ j, j < 8 → j ≠ z → ∀ g, (zs.getD j nilS).ownBlock = some g → w'.heap[g]? = w.heap[g]?) (hm : ∀ k, m k → m' k)
    (hv : w'.ownsRow base 9 1 v l.length (strsV l)) (hg : ∀ g, v.ownBlock = some g → m' g)
    (ha : ∀ g, v.ownBlock = some g → ∀ j, j < 8 → j ≠ z → (zs.getD j nilS).ownBlock ≠ some g) : ZRows w' base (zs.set z v) (L.set z l) m' := by
  refine ⟨by rw [List.length_set]; exact h.len, fun j hj => ?_, fun j hj g => ?_, fun i j hi hj hij g => ?_⟩
  · rw [getD_set zs z j v nilS (by rw [h.len]; exact hz), getD_set L z j l [] (by rw [hL]; exact hz)]
    by_cases hzj : z = j
    · rw [if_pos hzj, if_pos hzj]; exact hv
    · rw [if_neg hzj, if_neg hzj]
      exact ownsRow_same (h.row j hj) (hb j hj (Ne.symm hzj))
  · rw [getD_set zs z j v nilS (by rw [h.len]; exact hz)]
    by_cases hzj : z = j
    · rw [if_pos hzj]; exact hg g
    · rw [if_neg hzj]; exact fun he => hm g (h.own j hj g he)
  · rw [getD_set zs z i v nilS (by rw [h.len]; exact hz), getD_set zs z j v nilS (by rw [h.len]; exact hz)]
    by_cases hzi : z = i
    · rw [if_pos hzi, if_neg (by omega)]
      exact fun he => ha g he j hj (by omega)
    · rw [if_neg hzi]
      by_cases hzj : z = j
      · rw [if_pos hzj]
        exact fun he h2 => ha g h2 i hi (by omega) he
      · rw [if_neg hzj]
        exact h.apart i j hi hj hij g

/-- The program's device at block b. -/
structure DevAt (w : World) (base b : Nat) (D : Dv) (m : Nat → Prop) (zs : List Value) (wv : Value) : Prop where
  ok : D.Ok
  blk : Blk w b 102 (dCells zs D.S D.T [wv, .int .i64 D.f])
  rows : ZRows w base zs D.L m
  wait : w.ownsRow base 136 2 wv D.q.length (writesV D.q)
  waitOwn : ∀ g, wv.ownBlock = some g → m g
  own : m b
  lt : ∀ k, m k → base ≤ k ∧ k < w.heap.size
def Dev (w : World) (base b : Nat) (D : Dv) (m : Nat → Prop) : Prop := ∃ zs wv, DevAt w base b D m zs wv

section
variable {w w' : World} {base b : Nat} {D : Dv} {m m' : Nat → Prop} {zs : List Value} {wv : Value}
theorem DevAt.same (h : DevAt w base b D m zs wv) (hb : ∀ k, m k → w'.heap[k]? = w.heap[k]?) (hs : w.heap.size ≤ w'.heap.size) : DevAt w' base b D m zs wv :=
  ⟨h.ok, (hb b h.own).trans h.blk, h.rows.same (fun z hz g hg => hb g (h.rows.own z hz g hg)) (fun _ h => h), ownsRow_same h.wait (fun g hg => hb g (h.waitOwn g hg)), h.waitOwn, h.own, fun k hk => ⟨(h.lt k hk).1, Nat.lt_of_lt_of_le (h.lt k hk).2 hs⟩⟩
theorem Dev.same (h : Dev w base b D m) (hb : ∀ k, m k → w'.heap[k]? = w.heap[k]?) (hs : w.heap.size ≤ w'.heap.size) : Dev w' base b D m := by
  obtain ⟨zs, wv, h⟩ := h
  exact ⟨zs, wv, h.same hb hs⟩
theorem Dev.below (h : Dev w base b D m) (hb : Below w.heap.size w w') : Dev w' base b D m := by
  obtain ⟨zs, wv, h⟩ := h
  exact ⟨zs, wv, h.same (fun k hk => hb.block k (h.lt k hk).2) hb.size⟩
theorem Dev.other (h : Dev w base b D m) {n n' : Nat → Prop} (hm : Moves w w' n n') (hd : ∀ k, m k → ¬ n k) : Dev w' base b D m := by
  obtain ⟨zs, wv, h⟩ := h
  exact ⟨zs, wv, h.same (fun k hk => hm.block k (h.lt k hk).2 (hd k hk)) hm.size⟩
theorem DevAt.cellZ (h : DevAt w base b D m zs wv) (z : Nat) (hz : z < 8) : w.cell? ⟨b, z, none⟩ = some (zs.getD z nilS) := by
  rw [h.blk.cell, dCells_z h.rows.len z hz]
theorem DevAt.cellS (h : DevAt w base b D m zs wv) (z : Nat) (hz : z < 8) : w.cell? ⟨b, 8 + z, none⟩ = some (natV (D.sure z)) := by
  rw [h.blk.cell, dCells_s h.rows.len h.ok.hS z hz]; rfl
theorem DevAt.cellT (h : DevAt w base b D m zs wv) (k : Nat) (hk : k < 2) : w.cell? ⟨b, 16 + k, none⟩ = some (.string (D.T.getD k ⟨#[]⟩)) := by
  rw [h.blk.cell, dCells_t h.rows.len h.ok.hS h.ok.hT k hk]
theorem DevAt.cellW (h : DevAt w base b D m zs wv) : w.cell? ⟨b, 18, none⟩ = some wv := by
  rw [h.blk.cell, dCells_r (k := 0) h.rows.len h.ok.hS h.ok.hT]; rfl
theorem DevAt.cellF (h : DevAt w base b D m zs wv) : w.cell? ⟨b, 19, none⟩ = some (.int .i64 D.f) := by
  rw [h.blk.cell, dCells_r (k := 1) h.rows.len h.ok.hS h.ok.hT]; rfl
theorem DevAt.form (h : DevAt w base b D m zs wv) (z : Nat) (hz : z < 8) : ∃ a cap, zs.getD z nilS = .slice a (D.zone z).length cap := by
  rcases (h.rows.row z hz).2 with ⟨h1, h2⟩ | ⟨g, cap, cur, h1, _⟩
  · exact ⟨none, 0, by rw [h1]; unfold Dv.zone; rw [h2]⟩
  · exact ⟨_, cap, h1⟩
theorem own_at {g0 : Nat} {v : Value} {l : List ByteArray} (h : w.ownsRow g0 9 1 v l.length (strsV l)) (i : Nat) (hi : i < l.length) :
    ∃ g cap, v = .slice (some ⟨g, 0, none⟩) l.length cap ∧ w.cell? ⟨g, i, none⟩ = some (.string (l.getD i ⟨#[]⟩)) := by
  rcases h.2 with ⟨_, h2⟩ | ⟨g, cap, cur, rfl, _, hg, _, _, _, hx⟩
  · omega
  · refine ⟨g, cap, rfl, ?_⟩
    rw [cell_of_row w g i cur _ (0, 0) hg]
    have h1 : (strsV l)[i]? = cur[i]? := by
      rw [← hx, List.getElem?_take_of_lt (by omega)]
      simp
    rw [← h1]
    simp [strsV, hi, List.getD]
theorem DevAt.at_ (h : DevAt w base b D m zs wv) (z : Nat) (hz : z < 8) (i : Nat) (hi : i < (D.zone z).length) :
    ∃ g cap, zs.getD z nilS = .slice (some ⟨g, 0, none⟩) (D.zone z).length cap ∧ w.cell? ⟨g, i, none⟩ = some (.string ((D.zone z).getD i ⟨#[]⟩)) := own_at (h.rows.row z hz) i hi
theorem DevAt.neWait (h : DevAt w base b D m zs wv) : wv.ownBlock ≠ some b := own_blk_ne h.wait h.blk (by decide)
theorem DevAt.neZone (h : DevAt w base b D m zs wv) (z : Nat) (hz : z < 8) : (zs.getD z nilS).ownBlock ≠ some b := own_blk_ne (h.rows.row z hz) h.blk (by decide)
theorem ownsRow_ne {w : World} {base base' : Nat} {e e' : TypeId} {size size' n n' : Nat} {v v' : Value} {xs xs' : List Value} (h : w.ownsRow base e size v n xs) (h' : w.ownsRow base' e' size' v' n' xs') (hne : e ≠ e') {g : Nat} (hg : v.ownBlock = some g) : v'.ownBlock ≠ some g := by
  rcases h.2 with ⟨rfl, _⟩ | ⟨g1, cap, cur, rfl, _, hh, _⟩
  · simp [Value.ownBlock] at hg
  · have : g1 = g := by simpa [Value.ownBlock] using hg
    subst this
    exact own_blk_ne h' hh (Ne.symm hne)
theorem ownsRow_setCell {base : Nat} {e : TypeId} {size n : Nat} {v : Value} {xs : List Value} (h : w.ownsRow base e size v n xs) {p : Addr} (hp : v.ownBlock ≠ some p.block) (u : Value) : (w.setCell p u).ownsRow base e size v n xs :=
  ownsRow_same h (fun g hg => Below.heap_setCell w p u g (by rintro rfl; exact hp hg))
/-- Blocks of m, and those that are new. -/
def plus (m : Nat → Prop) (a b : Nat) : Nat → Prop := fun k => m k ∨ (a ≤ k ∧ k < b)
/-- A store into the device's own block. -/
theorem heap_set_ne (w : World) (b i : Nat) (u : Value) (g : Nat) (hg : g ≠ b) : (w.setCell ⟨b, i, none⟩ u).heap[g]? = w.heap[g]? := Below.heap_setCell w ⟨b, i, none⟩ u g hg
theorem setCell_size (w : World) (p : Addr) (u : Value) : (w.setCell p u).heap.size = w.heap.size := by simp [World.setCell]
theorem DevAt.setF (h : DevAt w base b D m zs wv) (f : Int) (h1 : -1 ≤ f) (h2 : f < 9223372036854775808) : DevAt (w.setCell ⟨b, 19, none⟩ (.int .i64 f)) base b { D with f := f } m zs wv := by
  refine ⟨h.ok.setF f h1 h2, ?_, ?_, ownsRow_setCell h.wait h.neWait _, h.waitOwn, h.own, fun k hk => ⟨(h.lt k hk).1, by rw [setCell_size]; exact (h.lt k hk).2⟩⟩
  · have := h.blk.set_ 19 (.int .i64 f)
    rw [dCells_setR (k := 1) h.rows.len h.ok.hS h.ok.hT] at this
    exact this
  · exact h.rows.same (fun z hz g hg => heap_set_ne w b 19 _ g (by rintro rfl; exact h.neZone z hz hg)) (fun _ h => h)
theorem DevAt.setS (h : DevAt w base b D m zs wv) (z n : Nat) (hz : z < 8) : DevAt (w.setCell ⟨b, 8 + z, none⟩ (.int .i64 (n : Int))) base b { D with S := D.S.set z n } m zs wv := by
  refine ⟨h.ok.setS z n, ?_, ?_, ownsRow_setCell h.wait h.neWait _, h.waitOwn, h.own, fun k hk => ⟨(h.lt k hk).1, by rw [setCell_size]; exact (h.lt k hk).2⟩⟩
  · have := h.blk.set_ (8 + z) (natV n)
    rw [dCells_setS h.rows.len h.ok.hS z hz] at this
    exact this
  · exact h.rows.same (fun j hj g hg => heap_set_ne w b (8 + z) _ g (by rintro rfl; exact h.neZone j hj hg)) (fun _ h => h)
theorem DevAt.setT (h : DevAt w base b D m zs wv) (k : Nat) (hk : k < 2) (s : ByteArray) : DevAt (w.setCell ⟨b, 16 + k, none⟩ (.string s)) base b { D with T := D.T.set k s } m zs wv := by
  refine ⟨h.ok.setT k s, ?_, ?_, ownsRow_setCell h.wait h.neWait _, h.waitOwn, h.own, fun k hk => ⟨(h.lt k hk).1, by rw [setCell_size]; exact (h.lt k hk).2⟩⟩
  · have := h.blk.set_ (16 + k) (.string s)
    rw [dCells_setT h.rows.len h.ok.hS h.ok.hT k hk] at this
    exact this
  · exact h.rows.same (fun j hj g hg => heap_set_ne w b (16 + k) _ g (by rintro rfl; exact h.neZone j hj hg)) (fun _ h => h)
/-- A zone's row is another one: its own row may have grown in between, other blocks are new. -/
theorem DevAt.setZ (h : DevAt w base b D m zs wv) (z : Nat) (hz : z < 8) {w1 : World} (hs : w.heap.size ≤ w1.heap.size)
    (hk : ∀ k, k < w.heap.size → some k ≠ (zs.getD z nilS).ownBlock → w1.heap[k]? = w.heap[k]?) (v : Value) (l : List ByteArray) (hl : l.length ≤ 16)
    (hv : w1.ownsRow base 9 1 v l.length (strsV l)) (hg : ∀ g, v.ownBlock = some g → (zs.getD z nilS).ownBlock = some g ∨ w.heap.size ≤ g) :
    DevAt (w1.setCell ⟨b, z, none⟩ v) base b { D with L := D.L.set z l } (plus m w.heap.size w1.heap.size) (zs.set z v) wv := by
  have hb1 : w1.heap[b]? = w.heap[b]? := hk b h.blk.lt (fun he => h.neZone z hz he.symm)
  have hnb : ∀ g, v.ownBlock = some g → g ≠ b := fun g hg' e => by
    rcases hg g hg' with h1 | h1
    · exact h.neZone z hz (e ▸ h1)
    · have := h.blk.lt; omega
  have hwait : ∀ g, wv.ownBlock = some g → w1.heap[g]? = w.heap[g]? := fun g hg' => hk g (h.lt g (h.waitOwn g hg')).2 (fun he => ownsRow_ne (h.rows.row z hz) h.wait (by decide) he.symm hg')
  have hrow : ∀ j, j < 8 → j ≠ z → ∀ g, (zs.getD j nilS).ownBlock = some g → w1.heap[g]? = w.heap[g]? := fun j hj hjz g hg' =>
    hk g (h.lt g (h.rows.own j hj g hg')).2 (fun he => h.rows.apart z j hz hj (Ne.symm hjz) g he.symm hg')
  refine ⟨h.ok.setZ z hz l hl, ?_, ?_, ?_, fun g hg' => .inl (h.waitOwn g hg'), .inl h.own, fun k hk' => ?_⟩
  · have h2 : Blk w1 b 102 (dCells zs D.S D.T [wv, .int .i64 D.f]) := hb1.trans h.blk
    have := h2.set_ z v
    rw [dCells_setZ h.rows.len z hz] at this
    exact this
  · refine h.rows.set h.ok.hL z hz v l (fun j hj hjz g hg' => ?_) (fun _ h => .inl h) (ownsRow_setCell hv (fun he => hnb b he rfl) _) (fun g hg' => ?_) (fun g hg' j hj hjz he => ?_)
    · rw [heap_set_ne w1 b z v g (by rintro rfl; exact h.neZone j hj hg')]
      exact hrow j hj hjz g hg'
    · rcases hg g hg' with h1 | h1
      · exact .inl (h.rows.own z hz g h1)
      · exact .inr ⟨h1, (hv.lt g hg').2⟩
    · rcases hg g hg' with h1 | h1
      · exact h.rows.apart z j hz hj (Ne.symm hjz) g h1 he
      · have := (h.lt g (h.rows.own j hj g he)).2
        omega
  · refine ownsRow_same h.wait (fun g hg' => ?_)
    rw [heap_set_ne w1 b z v g (by rintro rfl; exact h.neWait hg')]
    exact hwait g hg'
  · rw [setCell_size]
    rcases hk' with h1 | h1
    · exact ⟨(h.lt k h1).1, Nat.lt_of_lt_of_le (h.lt k h1).2 hs⟩
    · exact ⟨by have := (h.lt b h.own).1; have := h.blk.lt; omega, h1.2⟩
theorem DevAt.setZ_moves (h : DevAt w base b D m zs wv) (z : Nat) (hz : z < 8) {w1 : World} (ho : w1.os = w.os) (ht : w1.tape = w.tape) (hu : w1.output = w.output) (hs : w.heap.size ≤ w1.heap.size)
    (hk : ∀ k, k < w.heap.size → some k ≠ (zs.getD z nilS).ownBlock → w1.heap[k]? = w.heap[k]?) (v : Value) : Moves w (w1.setCell ⟨b, z, none⟩ v) m (plus m w.heap.size w1.heap.size) := by
  refine ⟨ho, ht, hu, by rw [setCell_size]; exact hs, fun k hk' hm => ?_, fun k hk' => hk'.elim .inl (fun h => .inr h.1)⟩
  rw [heap_set_ne w1 b z v k (by rintro rfl; exact hm h.own)]
  exact hk k hk' (fun he => hm (h.rows.own z hz k he.symm))
/-- What waits is another row. -/
theorem DevAt.setW (h : DevAt w base b D m zs wv) {w1 : World} (hs : w.heap.size ≤ w1.heap.size)
    (hk : ∀ k, k < w.heap.size → some k ≠ wv.ownBlock → w1.heap[k]? = w.heap[k]?) (v : Value) (q : List (Nat × ByteArray)) (hq : ∀ p ∈ q, p.1 < 2)
    (hv : w1.ownsRow base 136 2 v q.length (writesV q)) (hg : ∀ g, v.ownBlock = some g → wv.ownBlock = some g ∨ w.heap.size ≤ g) :
    DevAt (w1.setCell ⟨b, 18, none⟩ v) base b { D with q := q } (plus m w.heap.size w1.heap.size) zs v := by
  have hb1 : w1.heap[b]? = w.heap[b]? := hk b h.blk.lt (fun he => h.neWait he.symm)
  have hnb : ∀ g, v.ownBlock = some g → g ≠ b := fun g hg' e => by
    rcases hg g hg' with h1 | h1
    · exact h.neWait (e ▸ h1)
    · have := h.blk.lt; omega
  refine ⟨h.ok.setQ q hq, ?_, ?_, ownsRow_setCell hv (fun he => hnb b he rfl) _, fun g hg' => ?_, .inl h.own, fun k hk' => ?_⟩
  · have h2 : Blk w1 b 102 (dCells zs D.S D.T [wv, .int .i64 D.f]) := hb1.trans h.blk
    have := h2.set_ 18 v
    rw [dCells_setR (k := 0) h.rows.len h.ok.hS h.ok.hT] at this
    exact this
  · refine h.rows.same (fun z hz g hg' => ?_) (fun _ h => .inl h)
    rw [heap_set_ne w1 b 18 v g (by rintro rfl; exact h.neZone z hz hg')]
    exact hk g (h.lt g (h.rows.own z hz g hg')).2 (fun he => ownsRow_ne (h.rows.row z hz) h.wait (by decide) hg' he.symm)
  · rcases hg g hg' with h1 | h1
    · exact .inl (h.waitOwn g h1)
    · exact .inr ⟨h1, (hv.lt g hg').2⟩
  · rw [setCell_size]
    rcases hk' with h1 | h1
    · exact ⟨(h.lt k h1).1, Nat.lt_of_lt_of_le (h.lt k h1).2 hs⟩
    · exact ⟨by have := (h.lt b h.own).1; have := h.blk.lt; omega, h1.2⟩
theorem DevAt.setW_moves (h : DevAt w base b D m zs wv) {w1 : World} (ho : w1.os = w.os) (ht : w1.tape = w.tape) (hu : w1.output = w.output) (hs : w.heap.size ≤ w1.heap.size)
    (hk : ∀ k, k < w.heap.size → some k ≠ wv.ownBlock → w1.heap[k]? = w.heap[k]?) (v : Value) : Moves w (w1.setCell ⟨b, 18, none⟩ v) m (plus m w.heap.size w1.heap.size) := by
  refine ⟨ho, ht, hu, by rw [setCell_size]; exact hs, fun k hk' hm => ?_, fun k hk' => hk'.elim .inl (fun h => .inr h.1)⟩
  rw [heap_set_ne w1 b 18 v k (by rintro rfl; exact hm h.own)]
  exact hk k hk' (fun he => hm (h.waitOwn k he.symm))
theorem DevAt.drewN (h : DevAt w base b D m zs wv) (n : Nat) : DevAt (w.drewN n) base b D m zs wv := h.same (fun _ _ => rfl) (Nat.le_refl _)
theorem Dev.drewN (h : Dev w base b D m) (n : Nat) : Dev (w.drewN n) base b D m := h.same (fun _ _ => rfl) (Nat.le_refl _)
end
end Go.Proofs.YtmligbaalbbgiabDoor

/- How the reference's device lies in memory, and what it takes that it lies there still. It states nothing about the program. -/
import Derived.Test.YtmligbaalbbgiabDoorProg
import Derived.Test.YtmligbaalbbgiabDoorZoneImg
namespace Go.Proofs.YtmligbaalbbgiabDoor
open Go.RowKit

/-- What waits: which slot; what. -/
def qAt (q : List (Nat × ByteArray)) : List Value := q.map fun p => natV p.1
def qWhat (q : List (Nat × ByteArray)) : List Value := strsV (q.map (·.2))
theorem qAt_length (q : List (Nat × ByteArray)) : (qAt q).length = q.length := by simp [qAt]
theorem qWhat_length (q : List (Nat × ByteArray)) : (qWhat q).length = q.length := by simp [qWhat, strsV]

/-- The reference's device at block b. -/
structure RDevAt (w : World) (base b : Nat) (D : Dv) (m : Nat → Prop) (zs : List Value) (av wv : Value) : Prop where
  ok : D.Ok
  blk : Blk w b 134 (dCells zs D.S D.T [av, wv, .int .i64 D.f])
  rows : ZRows w base zs D.L m
  at_ : w.ownsRow base 3 1 av D.q.length (qAt D.q)
  what : w.ownsRow base 9 1 wv D.q.length (qWhat D.q)
  atOwn : ∀ g, av.ownBlock = some g → m g
  whatOwn : ∀ g, wv.ownBlock = some g → m g
  apart : ∀ z, z < 8 → ∀ g, (zs.getD z nilS).ownBlock = some g → wv.ownBlock ≠ some g
  own : m b
  lt : ∀ k, m k → base ≤ k ∧ k < w.heap.size
def RDev (w : World) (base b : Nat) (D : Dv) (m : Nat → Prop) : Prop := ∃ zs av wv, RDevAt w base b D m zs av wv

section
variable {w w' : World} {base b : Nat} {D : Dv} {m m' : Nat → Prop} {zs : List Value} {av wv : Value}
theorem RDevAt.same (h : RDevAt w base b D m zs av wv) (hb : ∀ k, m k → w'.heap[k]? = w.heap[k]?) (hs : w.heap.size ≤ w'.heap.size) : RDevAt w' base b D m zs av wv :=
  ⟨h.ok, (hb b h.own).trans h.blk, h.rows.same (fun z hz g hg => hb g (h.rows.own z hz g hg)) (fun _ h => h), ownsRow_same h.at_ (fun g hg => hb g (h.atOwn g hg)), ownsRow_same h.what (fun g hg => hb g (h.whatOwn g hg)), h.atOwn, h.whatOwn, h.apart, h.own, fun k hk => ⟨(h.lt k hk).1, Nat.lt_of_lt_of_le (h.lt k hk).2 hs⟩⟩
theorem RDev.same (h : RDev w base b D m) (hb : ∀ k, m k → w'.heap[k]? = w.heap[k]?) (hs : w.heap.size ≤ w'.heap.size) : RDev w' base b D m := by
  obtain ⟨zs, av, wv, h⟩ := h
  exact ⟨zs, av, wv, h.same hb hs⟩
theorem RDev.below (h : RDev w base b D m) (hb : Below w.heap.size w w') : RDev w' base b D m := by
  obtain ⟨zs, av, wv, h⟩ := h
  exact ⟨zs, av, wv, h.same (fun k hk => hb.block k (h.lt k hk).2) hb.size⟩
theorem RDev.other (h : RDev w base b D m) {n n' : Nat → Prop} (hm : Moves w w' n n') (hd : ∀ k, m k → ¬ n k) : RDev w' base b D m := by
  obtain ⟨zs, av, wv, h⟩ := h
  exact ⟨zs, av, wv, h.same (fun k hk => hm.block k (h.lt k hk).2 (hd k hk)) hm.size⟩
theorem RDevAt.cellZ (h : RDevAt w base b D m zs av wv) (z : Nat) (hz : z < 8) : w.cell? ⟨b, z, none⟩ = some (zs.getD z nilS) := by
  rw [h.blk.cell, dCells_z h.rows.len z hz]
theorem RDevAt.cellS (h : RDevAt w base b D m zs av wv) (z : Nat) (hz : z < 8) : w.cell? ⟨b, 8 + z, none⟩ = some (natV (D.sure z)) := by
  rw [h.blk.cell, dCells_s h.rows.len h.ok.hS z hz]; rfl
theorem RDevAt.cellT (h : RDevAt w base b D m zs av wv) (k : Nat) (hk : k < 2) : w.cell? ⟨b, 16 + k, none⟩ = some (.string (D.T.getD k ⟨#[]⟩)) := by
  rw [h.blk.cell, dCells_t h.rows.len h.ok.hS h.ok.hT k hk]
theorem RDevAt.cellA (h : RDevAt w base b D m zs av wv) : w.cell? ⟨b, 18, none⟩ = some av := by
  rw [h.blk.cell, dCells_r (k := 0) h.rows.len h.ok.hS h.ok.hT]; rfl
theorem RDevAt.cellW (h : RDevAt w base b D m zs av wv) : w.cell? ⟨b, 19, none⟩ = some wv := by
  rw [h.blk.cell, dCells_r (k := 1) h.rows.len h.ok.hS h.ok.hT]; rfl
theorem RDevAt.cellF (h : RDevAt w base b D m zs av wv) : w.cell? ⟨b, 20, none⟩ = some (.int .i64 D.f) := by
  rw [h.blk.cell, dCells_r (k := 2) h.rows.len h.ok.hS h.ok.hT]; rfl
theorem RDevAt.form (h : RDevAt w base b D m zs av wv) (z : Nat) (hz : z < 8) : ∃ a cap, zs.getD z nilS = .slice a (D.zone z).length cap := by
  rcases (h.rows.row z hz).2 with ⟨h1, h2⟩ | ⟨g, cap, cur, h1, _⟩
  · exact ⟨none, 0, by rw [h1]; unfold Dv.zone; rw [h2]⟩
  · exact ⟨_, cap, h1⟩
theorem RDevAt.at_z (h : RDevAt w base b D m zs av wv) (z : Nat) (hz : z < 8) (i : Nat) (hi : i < (D.zone z).length) :
    ∃ g cap, zs.getD z nilS = .slice (some ⟨g, 0, none⟩) (D.zone z).length cap ∧ w.cell? ⟨g, i, none⟩ = some (.string ((D.zone z).getD i ⟨#[]⟩)) := own_at (h.rows.row z hz) i hi
theorem RDevAt.neAt (h : RDevAt w base b D m zs av wv) : av.ownBlock ≠ some b := own_blk_ne h.at_ h.blk (by decide)
theorem RDevAt.neWhat (h : RDevAt w base b D m zs av wv) : wv.ownBlock ≠ some b := own_blk_ne h.what h.blk (by decide)
theorem RDevAt.neZone (h : RDevAt w base b D m zs av wv) (z : Nat) (hz : z < 8) : (zs.getD z nilS).ownBlock ≠ some b := own_blk_ne (h.rows.row z hz) h.blk (by decide)
theorem RDevAt.setF (h : RDevAt w base b D m zs av wv) (f : Int) (h1 : -1 ≤ f) (h2 : f < 9223372036854775808) : RDevAt (w.setCell ⟨b, 20, none⟩ (.int .i64 f)) base b { D with f := f } m zs av wv := by
  refine ⟨h.ok.setF f h1 h2, ?_, ?_, ownsRow_setCell h.at_ h.neAt _, ownsRow_setCell h.what h.neWhat _, h.atOwn, h.whatOwn, h.apart, h.own, fun k hk => ⟨(h.lt k hk).1, by rw [setCell_size]; exact (h.lt k hk).2⟩⟩
  · have := h.blk.set_ 20 (.int .i64 f)
    rw [dCells_setR (k := 2) h.rows.len h.ok.hS h.ok.hT] at this
    exact this
  · exact h.rows.same (fun z hz g hg => heap_set_ne w b 20 _ g (by rintro rfl; exact h.neZone z hz hg)) (fun _ h => h)
theorem RDevAt.setS (h : RDevAt w base b D m zs av wv) (z n : Nat) (hz : z < 8) : RDevAt (w.setCell ⟨b, 8 + z, none⟩ (.int .i64 (n : Int))) base b { D with S := D.S.set z n } m zs av wv := by
  refine ⟨h.ok.setS z n, ?_, ?_, ownsRow_setCell h.at_ h.neAt _, ownsRow_setCell h.what h.neWhat _, h.atOwn, h.whatOwn, h.apart, h.own, fun k hk => ⟨(h.lt k hk).1, by rw [setCell_size]; exact (h.lt k hk).2⟩⟩
  · have := h.blk.set_ (8 + z) (natV n)
    rw [dCells_setS h.rows.len h.ok.hS z hz] at this
    exact this
  · exact h.rows.same (fun j hj g hg => heap_set_ne w b (8 + z) _ g (by rintro rfl; exact h.neZone j hj hg)) (fun _ h => h)
theorem RDevAt.setT (h : RDevAt w base b D m zs av wv) (k : Nat) (hk : k < 2) (s : ByteArray) : RDevAt (w.setCell ⟨b, 16 + k, none⟩ (.string s)) base b { D with T := D.T.set k s } m zs av wv := by
  refine ⟨h.ok.setT k s, ?_, ?_, ownsRow_setCell h.at_ h.neAt _, ownsRow_setCell h.what h.neWhat _, h.atOwn, h.whatOwn, h.apart, h.own, fun k hk => ⟨(h.lt k hk).1, by rw [setCell_size]; exact (h.lt k hk).2⟩⟩
  · have := h.blk.set_ (16 + k) (.string s)
    rw [dCells_setT h.rows.len h.ok.hS h.ok.hT k hk] at this
    exact this
  · exact h.rows.same (fun j hj g hg => heap_set_ne w b (16 + k) _ g (by rintro rfl; exact h.neZone j hj hg)) (fun _ h => h)
/-- A zone's row is another one: its own row may have grown in between, other blocks are new. -/
theorem RDevAt.setZ (h : RDevAt w base b D m zs av wv) (z : Nat) (hz : z < 8) {w1 : World} (hs : w.heap.size ≤ w1.heap.size)
    (hk : ∀ k, k < w.heap.size → some k ≠ (zs.getD z nilS).ownBlock → w1.heap[k]? = w.heap[k]?) (v : Value) (l : List ByteArray) (hl : l.length ≤ 16)
    (hv : w1.ownsRow base 9 1 v l.length (strsV l)) (hg : ∀ g, v.ownBlock = some g → (zs.getD z nilS).ownBlock = some g ∨ w.heap.size ≤ g) :
    RDevAt (w1.setCell ⟨b, z, none⟩ v) base b { D with L := D.L.set z l } (plus m w.heap.size w1.heap.size) (zs.set z v) av wv := by
  have hb1 : w1.heap[b]? = w.heap[b]? := hk b h.blk.lt (fun he => h.neZone z hz he.symm)
  have hnb : ∀ g, v.ownBlock = some g → g ≠ b := fun g hg' e => by
    rcases hg g hg' with h1 | h1
    · exact h.neZone z hz (e ▸ h1)
    · have := h.blk.lt; omega
  have hat : ∀ g, av.ownBlock = some g → w1.heap[g]? = w.heap[g]? := fun g hg' => hk g (h.lt g (h.atOwn g hg')).2 (fun he => ownsRow_ne (h.rows.row z hz) h.at_ (by decide) he.symm hg')
  have hwhat : ∀ g, wv.ownBlock = some g → w1.heap[g]? = w.heap[g]? := fun g hg' => hk g (h.lt g (h.whatOwn g hg')).2 (fun he => h.apart z hz g he.symm hg')
  have hrow : ∀ j, j < 8 → j ≠ z → ∀ g, (zs.getD j nilS).ownBlock = some g → w1.heap[g]? = w.heap[g]? := fun j hj hjz g hg' =>
    hk g (h.lt g (h.rows.own j hj g hg')).2 (fun he => h.rows.apart z j hz hj (Ne.symm hjz) g he.symm hg')
  refine ⟨h.ok.setZ z hz l hl, ?_, ?_, ?_, ?_, fun g hg' => .inl (h.atOwn g hg'), fun g hg' => .inl (h.whatOwn g hg'), fun j hj g hg' => ?_, .inl h.own, fun k hk' => ?_⟩
  · have h2 : Blk w1 b 134 (dCells zs D.S D.T [av, wv, .int .i64 D.f]) := hb1.trans h.blk
    have := h2.set_ z v
    rw [dCells_setZ h.rows.len z hz] at this
    exact this
  · refine h.rows.set h.ok.hL z hz v l (fun j hj hjz g hg' => ?_) (fun _ h => .inl h) (ownsRow_setCell hv (fun he => hnb b he rfl) _) (fun g hg' => ?_) (fun g hg' j hj hjz he => ?_)
    · rw [heap_set_ne w1 b z v g (by rintro rfl; exact h.neZone j hj hg')]
      exact hrow j hj hjz g hg'
    · rcases hg g hg' with h1 | h1
      · exact .inl (h.rows.own z hz g h1)
      · exact .inr ⟨h1, (hv.lt g hg').2⟩
    · rcases hg g hg' with h1 | h1
      · exact h.rows.apart z j hz hj (Ne.symm hjz) g h1 he
      · have := (h.lt g (h.rows.own j hj g he)).2
        omega
  · refine ownsRow_same h.at_ (fun g hg' => ?_)
    rw [heap_set_ne w1 b z v g (by rintro rfl; exact h.neAt hg')]
    exact hat g hg'
  · refine ownsRow_same h.what (fun g hg' => ?_)
    rw [heap_set_ne w1 b z v g (by rintro rfl; exact h.neWhat hg')]
    exact hwhat g hg'
  · rw [getD_set zs z j v nilS (by rw [h.rows.len]; exact hz)] at hg'
    by_cases hzj : z = j
    · rw [if_pos hzj] at hg'
      rcases hg g hg' with h1 | h1
      · exact h.apart z hz g h1
      · intro he
        have := (h.lt g (h.whatOwn g he)).2
        omega
    · rw [if_neg hzj] at hg'
      exact h.apart j hj g hg'
  · rw [setCell_size]
    rcases hk' with h1 | h1
    · exact ⟨(h.lt k h1).1, Nat.lt_of_lt_of_le (h.lt k h1).2 hs⟩
    · exact ⟨by have := (h.lt b h.own).1; have := h.blk.lt; omega, h1.2⟩
theorem RDevAt.setZ_moves (h : RDevAt w base b D m zs av wv) (z : Nat) (hz : z < 8) {w1 : World} (ho : w1.os = w.os) (ht : w1.tape = w.tape) (hu : w1.output = w.output) (hs : w.heap.size ≤ w1.heap.size)
    (hk : ∀ k, k < w.heap.size → some k ≠ (zs.getD z nilS).ownBlock → w1.heap[k]? = w.heap[k]?) (v : Value) : Moves w (w1.setCell ⟨b, z, none⟩ v) m (plus m w.heap.size w1.heap.size) := by
  refine ⟨ho, ht, hu, by rw [setCell_size]; exact hs, fun k hk' hm => ?_, fun k hk' => hk'.elim .inl (fun h => .inr h.1)⟩
  rw [heap_set_ne w1 b z v k (by rintro rfl; exact hm h.own)]
  exact hk k hk' (fun he => hm (h.rows.own z hz k he.symm))
/-- What waits is in other rows. -/
theorem RDevAt.setQ (h : RDevAt w base b D m zs av wv) {w1 : World} (hs : w.heap.size ≤ w1.heap.size)
    (hk : ∀ k, k < w.heap.size → some k ≠ av.ownBlock → some k ≠ wv.ownBlock → w1.heap[k]? = w.heap[k]?) (v u : Value) (q : List (Nat × ByteArray)) (hq : ∀ p ∈ q, p.1 < 2)
    (hv : w1.ownsRow base 3 1 v q.length (qAt q)) (hu : w1.ownsRow base 9 1 u q.length (qWhat q))
    (hg : ∀ g, v.ownBlock = some g → av.ownBlock = some g ∨ w.heap.size ≤ g) (hg2 : ∀ g, u.ownBlock = some g → wv.ownBlock = some g ∨ w.heap.size ≤ g) :
    RDevAt ((w1.setCell ⟨b, 18, none⟩ v).setCell ⟨b, 19, none⟩ u) base b { D with q := q } (plus m w.heap.size w1.heap.size) zs v u := by
  have hb1 : w1.heap[b]? = w.heap[b]? := hk b h.blk.lt (fun he => h.neAt he.symm) (fun he => h.neWhat he.symm)
  have hnb : ∀ g, v.ownBlock = some g → g ≠ b := fun g hg' e => by
    rcases hg g hg' with h1 | h1
    · exact h.neAt (e ▸ h1)
    · have := h.blk.lt; omega
  have hnb2 : ∀ g, u.ownBlock = some g → g ≠ b := fun g hg' e => by
    rcases hg2 g hg' with h1 | h1
    · exact h.neWhat (e ▸ h1)
    · have := h.blk.lt; omega
  refine ⟨h.ok.setQ q hq, ?_, ?_, ?_, ?_, fun g hg' => ?_, fun g hg' => ?_, fun z hz g hg' he => ?_, .inl h.own, fun k hk' => ?_⟩
  · have h2 : Blk w1 b 134 (dCells zs D.S D.T [av, wv, .int .i64 D.f]) := hb1.trans h.blk
    have h3 := h2.set_ 18 v
    rw [dCells_setR (k := 0) h.rows.len h.ok.hS h.ok.hT] at h3
    have h4 := h3.set_ 19 u
    rw [dCells_setR (k := 1) h.rows.len h.ok.hS h.ok.hT] at h4
    exact h4
  · refine h.rows.same (fun z hz g hg' => ?_) (fun _ h => .inl h)
    have hgb : g ≠ b := by rintro rfl; exact h.neZone z hz hg'
    rw [heap_set_ne _ b 19 u g hgb, heap_set_ne w1 b 18 v g hgb]
    exact hk g (h.lt g (h.rows.own z hz g hg')).2 (fun he => ownsRow_ne (h.rows.row z hz) h.at_ (by decide) hg' he.symm) (fun he => h.apart z hz g hg' he.symm)
  · exact ownsRow_setCell (ownsRow_setCell hv (fun he => hnb b he rfl) _) (fun he => hnb b he rfl) _
  · exact ownsRow_setCell (ownsRow_setCell hu (fun he => hnb2 b he rfl) _) (fun he => hnb2 b he rfl) _
  · rcases hg g hg' with h1 | h1
    · exact .inl (h.atOwn g h1)
    · exact .inr ⟨h1, (hv.lt g hg').2⟩
  · rcases hg2 g hg' with h1 | h1
    · exact .inl (h.whatOwn g h1)
    · exact .inr ⟨h1, (hu.lt g hg').2⟩
  · rcases hg2 g he with h1 | h1
    · exact h.apart z hz g hg' h1
    · have := (h.lt g (h.rows.own z hz g hg')).2
      omega
  · rw [setCell_size, setCell_size]
    rcases hk' with h1 | h1
    · exact ⟨(h.lt k h1).1, Nat.lt_of_lt_of_le (h.lt k h1).2 hs⟩
    · exact ⟨by have := (h.lt b h.own).1; have := h.blk.lt; omega, h1.2⟩
theorem RDevAt.setQ_moves (h : RDevAt w base b D m zs av wv) {w1 : World} (ho : w1.os = w.os) (ht : w1.tape = w.tape) (hu : w1.output = w.output) (hs : w.heap.size ≤ w1.heap.size)
    (hk : ∀ k, k < w.heap.size → some k ≠ av.ownBlock → some k ≠ wv.ownBlock → w1.heap[k]? = w.heap[k]?) (v u : Value) : Moves w ((w1.setCell ⟨b, 18, none⟩ v).setCell ⟨b, 19, none⟩ u) m (plus m w.heap.size w1.heap.size) := by
  refine ⟨ho, ht, hu, by rw [setCell_size, setCell_size]; exact hs, fun k hk' hm => ?_, fun k hk' => hk'.elim .inl (fun h => .inr h.1)⟩
  have hkb : k ≠ b := by rintro rfl; exact hm h.own
  rw [heap_set_ne _ b 19 u k hkb, heap_set_ne w1 b 18 v k hkb]
  exact hk k hk' (fun he => hm (h.atOwn k he.symm)) (fun he => hm (h.whatOwn k he.symm))
theorem RDev.drewN (h : RDev w base b D m) (n : Nat) : RDev (w.drewN n) base b D m := h.same (fun _ _ => rfl) (Nat.le_refl _)
theorem RDevAt.drewN (h : RDevAt w base b D m zs av wv) (n : Nat) : RDevAt (w.drewN n) base b D m zs av wv := h.same (fun _ _ => rfl) (Nat.le_refl _)
end
end Go.Proofs.YtmligbaalbbgiabDoor

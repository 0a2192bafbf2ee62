/- The walk of salternkeep.ZoneHolds: it returns true. Condition: the package errors has laid its variable. -/
import Derived.Test.YtmligbaalbbgiabDoorProg
import Derived.Test.YtmligbaalbbgiabDoorZone7
import Derived.Test.YtmligbaalbbgiabDoorZone8
import Derived.Test.YtmligbaalbbgiabDoorTell
namespace Go.Proofs.YtmligbaalbbgiabDoor
open Go.RowKit

/-- An array of slices of texts, of the call's own. -/
structure WantAt (w : World) (base h : Nat) (L : List (List ByteArray)) (m : Nat → Prop) (zs : List Value) : Prop where
  blk : Blk w h 29 zs.toArray
  rows : ZRows w base zs L m
  hL : L.length = 8
  own : m h
  lt : ∀ k, m k → base ≤ k ∧ k < w.heap.size
section
variable {w w' : World} {base h : Nat} {L : List (List ByteArray)} {m : Nat → Prop} {zs : List Value}
theorem WantAt.same (k : WantAt w base h L m zs) (hb : ∀ j, m j → w'.heap[j]? = w.heap[j]?) (hs : w.heap.size ≤ w'.heap.size) : WantAt w' base h L m zs :=
  ⟨(hb h k.own).trans k.blk, k.rows.same (fun z hz g hg => hb g (k.rows.own z hz g hg)) (fun _ h => h), k.hL, k.own, fun j hj => ⟨(k.lt j hj).1, Nat.lt_of_lt_of_le (k.lt j hj).2 hs⟩⟩
theorem WantAt.below (k : WantAt w base h L m zs) (hb : Below w.heap.size w w') : WantAt w' base h L m zs := k.same (fun j hj => hb.block j (k.lt j hj).2) hb.size
theorem WantAt.other (k : WantAt w base h L m zs) {n n' : Nat → Prop} (hm : Moves w w' n n') (hd : ∀ j, m j → ¬ n j) : WantAt w' base h L m zs := k.same (fun j hj => hm.block j (k.lt j hj).2 (hd j hj)) hm.size
theorem WantAt.cellZ (k : WantAt w base h L m zs) (z : Nat) (hz : z < 8) : w.cell? ⟨h, z, none⟩ = some (zs.getD z nilS) := by
  rw [k.blk.cell]
  simp [List.getD, show z < zs.length by rw [k.rows.len]; exact hz]
theorem WantAt.form (k : WantAt w base h L m zs) (z : Nat) (hz : z < 8) : ∃ a cap, zs.getD z nilS = .slice a (L.getD z []).length cap := by
  rcases (k.rows.row z hz).2 with ⟨h1, h2⟩ | ⟨g, cap, cur, h1, _⟩
  · exact ⟨none, 0, by rw [h1, h2]⟩
  · exact ⟨_, cap, h1⟩
theorem WantAt.ne (k : WantAt w base h L m zs) (z : Nat) (hz : z < 8) : (zs.getD z nilS).ownBlock ≠ some h := own_blk_ne (k.rows.row z hz) k.blk (by decide)
theorem WantAt.set (k : WantAt w base h L m zs) (z : Nat) (hz : z < 8) {w1 : World} (hs : w.heap.size ≤ w1.heap.size)
    (hk : ∀ j, j < w.heap.size → some j ≠ (zs.getD z nilS).ownBlock → w1.heap[j]? = w.heap[j]?) (v : Value) (l : List ByteArray)
    (hv : w1.ownsRow base 9 1 v l.length (strsV l)) (hg : ∀ g, v.ownBlock = some g → (zs.getD z nilS).ownBlock = some g ∨ w.heap.size ≤ g) :
    WantAt (w1.setCell ⟨h, z, none⟩ v) base h (L.set z l) (plus m w.heap.size w1.heap.size) (zs.set z v) := by
  have hnb : ∀ g, v.ownBlock = some g → g ≠ h := fun g hg' e => by
    rcases hg g hg' with h1 | h1
    · exact k.ne z hz (e ▸ h1)
    · have := k.blk.lt; omega
  have hrow : ∀ j, j < 8 → j ≠ z → ∀ g, (zs.getD j nilS).ownBlock = some g → w1.heap[g]? = w.heap[g]? := fun j hj hjz g hg' =>
    hk g (k.lt g (k.rows.own j hj g hg')).2 (fun he => k.rows.apart z j hz hj (Ne.symm hjz) g he.symm hg')
  refine ⟨?_, ?_, by rw [List.length_set]; exact k.hL, .inl k.own, fun j hj' => ?_⟩
  · have h2 : Blk w1 h 29 zs.toArray := (hk h k.blk.lt (fun he => k.ne z hz he.symm)).trans k.blk
    have := h2.set_ z v
    simpa using this
  · refine k.rows.set k.hL z hz v l (fun j hj hjz g hg' => ?_) (fun _ h => .inl h) (ownsRow_setCell hv (fun he => hnb h he rfl) _) (fun g hg' => ?_) (fun g hg' j hj hjz he => ?_)
    · rw [heap_set_ne w1 h z v g (by rintro rfl; exact k.ne j hj hg')]
      exact hrow j hj hjz g hg'
    · rcases hg g hg' with h1 | h1
      · exact .inl (k.rows.own z hz g h1)
      · exact .inr ⟨h1, (hv.lt g hg').2⟩
    · rcases hg g hg' with h1 | h1
      · exact k.rows.apart z j hz hj (Ne.symm hjz) g h1 he
      · have := (k.lt g (k.rows.own j hj g he)).2
        omega
  · rw [setCell_size]
    rcases hj' with h1 | h1
    · exact ⟨(k.lt j h1).1, Nat.lt_of_lt_of_le (k.lt j h1).2 hs⟩
    · exact ⟨by have := (k.lt h k.own).1; have := k.blk.lt; omega, h1.2⟩
theorem WantAt.set_moves (k : WantAt w base h L m zs) (z : Nat) (hz : z < 8) {w1 : World} (ho : w1.os = w.os) (ht : w1.tape = w.tape) (hu : w1.output = w.output) (hs : w.heap.size ≤ w1.heap.size)
    (hk : ∀ j, j < w.heap.size → some j ≠ (zs.getD z nilS).ownBlock → w1.heap[j]? = w.heap[j]?) (v : Value) : Moves w (w1.setCell ⟨h, z, none⟩ v) m (plus m w.heap.size w1.heap.size) := by
  refine ⟨ho, ht, hu, by rw [setCell_size]; exact hs, fun j hj' hm => ?_, fun j hj' => hj'.elim .inl (fun h => .inr h.1)⟩
  rw [heap_set_ne w1 h z v j (by rintro rfl; exact hm k.own)]
  exact hk j hj' (fun he => hm (k.rows.own z hz j he.symm))
theorem WantAt.rowAfter (k : WantAt w base h L m zs) (z : Nat) (hz : z < 8) {w2 : World} (hb : Below w.drew.heap.size w.drew w2) (o : Obj) :
    (w2.alloc o).ownsRow base 9 1 (zs.getD z nilS) (L.getD z []).length (strsV (L.getD z [])) := by
  have h3 : Below w.heap.size w.drew (w2.alloc o) := hb.alloc hb.size o
  exact ownsRow_same (k.rows.row z hz) (fun g hg => h3.block g (k.lt g (k.rows.own z hz g hg)).2)
end

/-- The device and what is wanted of it. -/
structure HIn (w wr : World) (b h : Nat) (D : Dv) (m m2 : Nat → Prop) (zs : List Value) : Prop where
  z : ZIn w wr b D m
  want : WantAt wr w.heap.size h D.L m2 zs
  disj : ∀ k, m k → ¬ m2 k
  f : D.f = -1
theorem HIn.below {w wr w' : World} {b h : Nat} {D : Dv} {m m2 : Nat → Prop} {zs : List Value} (k : HIn w wr b h D m m2 zs) (hb : Below wr.heap.size wr w') : HIn w w' b h D m m2 zs :=
  ⟨k.z.below hb, k.want.below hb, k.disj, k.f⟩
theorem HIn.append {w wr w' : World} {b h : Nat} {D D' : Dv} {m m' m2 : Nat → Prop} {zs : List Value} (k : HIn w wr b h D m m2 zs) (hd : Dev w' w.heap.size b D' m') (hm : Moves wr w' m m') :
    ZIn w w' b D' m' ∧ WantAt w' w.heap.size h D.L m2 zs ∧ (∀ j, m' j → ¬ m2 j) :=
  ⟨k.z.step hd hm, k.want.other hm (fun j hj hc => k.disj j hc hj), fun j hj hc => (hm.sub j hj).elim (fun h1 => k.disj j h1 hc) (fun h1 => by have := (k.want.lt j hc).2; omega)⟩
/-- What stands behind an append to what is wanted. -/
theorem want_end {w wr w1 w2 : World} {b h : Nat} {D : Dv} {m m2 : Nat → Prop} {zs : List Value} (L : List (List ByteArray)) (k : ZIn w wr b D m) (kw : WantAt wr w.heap.size h L m2 zs) (hd : ∀ k, m k → ¬ m2 k) (Z : Nat) (hZ : Z < 8)
    (hb : Below wr.heap.size wr w1) (o : Obj) (g cap : Nat) (s : ByteArray) (hD : D.L = L.set Z (L.getD Z [] ++ [s])) (hf : D.f = -1)
    (hown : w2.ownsRow w.heap.size 9 1 (.slice (some ⟨g, 0, none⟩) ((L.getD Z []).length + 1) cap) ((L.getD Z []).length + 1) (strsV (L.getD Z []) ++ [.string s])) (hg : (w1.alloc o).grownBy w2 (zs.getD Z nilS).ownBlock)
    (hat : (zs.getD Z nilS).ownBlock = some g ∨ g = w1.heap.size + 1) :
    w2.cell? ⟨h, Z, none⟩ = some (zs.getD Z nilS) ∧ w2.frozen? ⟨h, Z, none⟩ = false ∧
    ∃ m2' zs', HIn w (w2.setCell ⟨h, Z, none⟩ (.slice (some ⟨g, 0, none⟩) ((L.getD Z []).length + 1) cap)) b h D m m2' zs' := by
  have hb1 : Below wr.heap.size wr (w1.alloc o) := hb.alloc hb.size o
  have hsz : wr.heap.size ≤ w2.heap.size := Nat.le_trans hb1.size hg.size
  have hkk : ∀ k, k < wr.heap.size → some k ≠ (zs.getD Z nilS).ownBlock → w2.heap[k]? = wr.heap[k]? := fun k hk hne => (hg.block k (Nat.lt_of_lt_of_le hk hb1.size) hne).trans (hb1.block k hk)
  have hbb : w2.heap[h]? = wr.heap[h]? := hkk h kw.blk.lt (fun he => kw.ne Z hZ he.symm)
  have hv : w2.ownsRow w.heap.size 9 1 (.slice (some ⟨g, 0, none⟩) ((L.getD Z []).length + 1) cap) (L.getD Z [] ++ [s]).length (strsV (L.getD Z [] ++ [s])) := by
    rw [strsV_append, List.length_append]
    exact hown
  have hgg : ∀ g', (Value.slice (some ⟨g, 0, none⟩) ((L.getD Z []).length + 1) cap).ownBlock = some g' → (zs.getD Z nilS).ownBlock = some g' ∨ wr.heap.size ≤ g' := by
    intro g' hg'
    have e : g = g' := by simpa [Value.ownBlock] using hg'
    subst e
    rcases hat with h1 | h1
    · exact .inl h1
    · exact .inr (by have := hb.size; omega)
  have e1 := kw.set Z hZ hsz hkk _ _ hv hgg
  have e2 := kw.set_moves Z hZ (hg.os.trans hb1.os) (hg.tape.trans hb1.tape) (hg.output.trans hb1.output) hsz hkk (.slice (some ⟨g, 0, none⟩) ((L.getD Z []).length + 1) cap)
  refine ⟨(World.cell?_of_block (w := wr) (w' := w2) (a := ⟨h, Z, none⟩) hbb).trans (kw.cellZ Z hZ), (World.frozen?_of_block (w := wr) (w' := w2) (a := ⟨h, Z, none⟩) hbb).trans (kw.blk.frozen Z), plus m2 wr.heap.size w2.heap.size, zs.set Z (.slice (some ⟨g, 0, none⟩) ((L.getD Z []).length + 1) cap), ⟨k.dev.other e2 hd, ?_⟩, ?_, ?_, hf⟩
  · exact k.bel.trans (e2.below (fun j hj => (kw.lt j hj).1) k.bel.size)
  · rw [hD]; exact e1
  · intro j hj hc
    rcases hc with h1 | h1
    · exact hd j hj h1
    · obtain ⟨_, _, h0⟩ := k.dev
      have := (h0.lt j hj).2
      omega

theorem overHolds (s : ByteArray) (w : World) : Calls Tryd.prog 11 #[.string s] w fun e w' => e = .returned (.bool (decide (140 < s.size))) ∧ w' = w := by
  by_cases h : 140 < s.size
  · have c : decide (140 < s.size) = true := by simpa using h
    have c' : decide ((140 : Int) < (s.size : Int)) = true := by simp; omega
    go_enter Tryd.func11, Tryd.ntmps11
    go_wp2_with fail
    go_ret
    exact ⟨by rw [c]; rfl, rfl⟩
  · have c : decide (140 < s.size) = false := by simpa using h
    have c' : decide ((140 : Int) < (s.size : Int)) = false := by simp; omega
    go_enter Tryd.func11, Tryd.ntmps11
    go_wp2_with fail
    go_ret
    exact ⟨by rw [c]; rfl, rfl⟩

set_option maxRecDepth 100000 in
theorem indexHolds {w : World} {a : Option Addr} {n cap : Nat} {l : List ByteArray} (h : StrsAt w a n cap l) (hl : l.length ≤ 65536) :
    Calls Tryd.prog 64 #[.slice a n cap, .func (.func 11) #[] #[]] w fun e w' => w' = w ∧ ∃ r : Int, e = .returned (.int .i64 r) ∧ ((r = -1 ∧ ∀ s ∈ l, s.size ≤ 140) ∨ (0 ≤ r ∧ ∃ s ∈ l, 140 < s.size)) := by
  have HN := hide h.hn
  have HLL := hide hl
  have H := hide h
  clear h hl
  go_enter Tryd.func64, Tryd.ntmps64
  go_wp2_with fail
  go_loopw [8] (fun i wr => ∃ I : Nat, i = .int .i64 (I : Int) ∧ I ≤ n ∧ (∀ j, j < I → (l.getD j ⟨#[]⟩).size ≤ 140) ∧ wr = w) (fun i _ => n - (intOf i).toNat)
  case atStart => exact ⟨0, rfl, by omega, fun j hj => by omega, rfl⟩
  case round =>
    obtain ⟨I, rfl, hI, hall, rfl⟩ := hrel
    have HALL := hide hall
    have hn65 : n ≤ 65536 := by rw [HN.out]; exact HLL.out
    clear hall
    by_cases hlt : I < n
    · have d0 : decide (I < n) = true := by simpa using hlt
      have hIl : I < l.length := by rw [← HN.out]; exact hlt
      obtain ⟨x, rfl⟩ : ∃ x, a = some x := by
        cases a with
        | none => have := (H.out.hz rfl).1; omega
        | some x => exact ⟨x, rfl⟩
      have cx := H.out.hcell x rfl I hIl
      obtain ⟨s, hs⟩ : ∃ s, s = l.getD I ⟨#[]⟩ := ⟨_, rfl⟩
      rw [← hs] at cx
      have HS := hide hs
      have hmem : l.getD I ⟨#[]⟩ ∈ l := by rw [List.getD, List.getElem?_eq_getElem hIl]; exact List.getElem_mem _
      have HMEM := hide hmem
      clear hs hmem
      by_cases ho : 140 < s.size
      · have c : decide (140 < s.size) = true := by simpa using ho
        have HO := hide ho
        clear ho
        go_wp2_with (go_at_call 11; refine (overHolds s _).mono ?_; rintro e w1 ⟨rfl, rfl⟩; rw [c])
        go_ret
        exact ⟨rfl, (I : Int), rfl, .inr ⟨by omega, s, by rw [HS.out]; exact HMEM.out, HO.out⟩⟩
      · have c : decide (140 < s.size) = false := by simpa using ho
        have HO := hide ho
        clear ho
        go_wp2_with (go_at_call 11; refine (overHolds s _).mono ?_; rintro e w1 ⟨rfl, rfl⟩; rw [c])
        refine ⟨⟨I + 1, by go_num, by omega, fun j hj => ?_, trivial⟩, by simp [intOf]; omega⟩
        rcases Nat.lt_succ_iff_lt_or_eq.1 hj with h | h
        · exact HALL.out j h
        · rw [h, ← HS.out]; exact Nat.le_of_not_lt HO.out
    · obtain rfl : I = n := by omega
      have d0 : decide (I < I) = false := by simp
      have hend : ∀ s ∈ l, s.size ≤ 140 := fun s hs => by
        obtain ⟨j, hj, rfl⟩ := List.getElem_of_mem hs
        have := HALL.out j (by rw [HN.out]; exact hj)
        rwa [List.getD, List.getElem?_eq_getElem hj] at this
      have HE := hide hend
      clear hend
      go_wp2_with fail
      go_ret
      exact ⟨rfl, -1, rfl, .inl ⟨rfl, HE.out⟩⟩

theorem containsHolds {w : World} {a : Option Addr} {n cap : Nat} {l : List ByteArray} (h : StrsAt w a n cap l) (hl : l.length ≤ 65536) :
    Calls Tryd.prog 10 #[.slice a n cap, .func (.func 11) #[] #[]] w fun e w' => w' = w ∧ ((e = .returned (.bool false) ∧ ∀ s ∈ l, s.size ≤ 140) ∨ (e = .returned (.bool true) ∧ ∃ s ∈ l, 140 < s.size)) := by
  by_cases hx : ∀ s ∈ l, s.size ≤ 140
  · have hi : Calls Tryd.prog 64 #[.slice a n cap, .func (.func 11) #[] #[]] w fun e w' => w' = w ∧ e = .returned (.int .i64 (-1)) :=
      (indexHolds h hl).mono fun e w' ⟨hw, r, he, hr⟩ => ⟨hw, by
        rcases hr with ⟨rfl, _⟩ | ⟨_, s, hs, ho⟩
        · exact he
        · have := hx s hs; omega⟩
    have HI := hide hi
    have HX := hide hx
    clear h hl hi hx
    go_enter Tryd.func10, Tryd.ntmps10
    go_wp2_with (go_at_call 64; refine HI.out.mono ?_; rintro e w1 ⟨rfl, rfl⟩)
    go_ret
    exact ⟨rfl, .inl ⟨rfl, HX.out⟩⟩
  · have hx2 : ∃ s ∈ l, 140 < s.size := by
      refine Classical.byContradiction fun hc => hx fun s hs => Nat.le_of_not_lt fun ho => hc ⟨s, hs, ho⟩
    have HX := hide hx2
    have HI := hide (indexHolds h hl)
    have HNX := hide hx
    clear h hl hx hx2
    go_enter Tryd.func10, Tryd.ntmps10
    go_wp2_with (go_at_call 64; refine HI.out.mono ?_; rintro e w1 ⟨rfl, r, rfl, hr⟩; have hr0 : (0 : Int) ≤ r := (hr.elim (fun h => absurd h.2 HNX.out) (fun h => h.1)); have hd0 : decide ((0 : Int) ≤ r) = true := (by simpa using hr0); clear hr)
    go_ret
    exact ⟨rfl, .inr ⟨rfl, HX.out⟩⟩

end Go.Proofs.YtmligbaalbbgiabDoor

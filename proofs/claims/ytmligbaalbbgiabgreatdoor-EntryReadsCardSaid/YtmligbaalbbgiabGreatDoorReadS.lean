/- The functions salternlaw.sameInts, sameFiles (where they are alike) and short. Condition: what they are given can be read. -/
import Derived.Test.YtmligbaalbbgiabGreatDoorReadQ
namespace Go.Proofs.YtmligbaalbbgiabGreatDoor
open Go.RowKit

set_option maxRecDepth 100000 in
set_option maxHeartbeats 2000000 in
theorem sameInts_yes {w : World} {A1 A2 : Option Addr} {n c1 c2 : Nat} {zs : List Int} (h1 : IntsIn w A1 zs) (h2 : IntsIn w A2 zs) (hn : n = zs.length) (hl : n ≤ 65536) :
    Calls Tryz.prog 14 #[.slice A1 n c1, .slice A2 n c2] w fun e w' => e = .returned (.bool true) ∧ Below w.heap.size w w' := by
  have H1 := hide h1
  have H2 := hide h2
  have HN := hide hn
  have b0 : ((n : Int) != (n : Int)) = false := by simp
  have b0' : (n != n) = false := by simp
  clear h1 h2 hn
  go_enter Tryz.func14, Tryz.ntmps14
  go_wp2_with fail
  go_loopw [5] (fun i wr => ∃ I : Nat, i = .int .i64 (I : Int) ∧ I ≤ n ∧ Below w.heap.size w wr) (fun i _ => n - (intOf i).toNat)
  case atStart => exact ⟨0, rfl, by omega, Below.refl _ _⟩
  case round =>
    obtain ⟨I, rfl, hI, hb⟩ := hrel
    by_cases hlt : I < n
    · have d0 : decide (I < n) = true := by simpa using hlt
      have hIl : I < zs.length := by rw [← HN.out]; exact hlt
      obtain ⟨a, rfl, -, hc⟩ := (H1.out.keep hb) (by omega)
      obtain ⟨a2, rfl, -, hc2⟩ := (H2.out.keep hb) (by omega)
      have cx := hc I hIl
      have cy := hc2 I hIl
      obtain ⟨z, hz⟩ : ∃ z, z = zs.getD I 0 := ⟨_, rfl⟩
      rw [← hz] at cx cy
      have d1 : (z != z) = false := by simp
      have HB := hide hb
      clear hc hc2 hz hb
      go_upto_region 6 with fail
      go_quiet (fail)
      have HB2 := hide (below_step HB.out (below_drewN (Below.refl _ _) nq))
      go_wp2_with fail
      exact ⟨⟨I + 1, by go_num, by omega, HB2.out⟩, by simp [intOf]; omega⟩
    · obtain rfl : I = n := by omega
      have d0 : decide (I < I) = false := by simp
      have HB := hide hb
      clear hb
      go_wp2_with fail
      go_ret
      exact ⟨rfl, HB.out⟩

theorem bare_same {x y : FileD} (h : x.bare = y.bare) : x.name = y.name ∧ x.size = y.size ∧ x.cells = y.cells := by
  unfold FileD.bare at h
  injection h with h1 h2 h3 h4 h5
  exact ⟨h1, h2, h5⟩
set_option maxRecDepth 100000 in
set_option maxHeartbeats 4000000 in
theorem sameFiles_law {w : World} {A1 A2 : Option Addr} {n c1 c2 : Nat} {l1 l2 : List FileD} (h1 : FilesAt w A1 n l1) (h2 : FilesAt w A2 n l2) (he : l1.map FileD.bare = l2.map FileD.bare) (hl : ∀ x ∈ l1, x.cells.length ≤ 65536) (hn : n ≤ 65536) :
    Calls Tryz.prog 19 #[.slice A1 n c1, .slice A2 n c2] w fun e w' => e = .returned (.bool true) ∧ Below w.heap.size w w' := by
  have H1 := hide h1
  have H2 := hide h2
  have HE := hide he
  have HL := hide hl
  have b0 : ((n : Int) != (n : Int)) = false := by simp
  have b0' : (n != n) = false := by simp
  clear h1 h2 he hl
  go_enter Tryz.func19, Tryz.ntmps19
  go_wp2_with fail
  go_loopw [5] (fun i wr => ∃ I : Nat, i = .int .i64 (I : Int) ∧ I ≤ n ∧ Below w.heap.size w wr) (fun i _ => n - (intOf i).toNat)
  case atStart => exact ⟨0, rfl, by omega, Below.refl _ _⟩
  case round =>
    obtain ⟨I, rfl, hI, hb⟩ := hrel
    by_cases hlt : I < n
    · have d0 : decide (I < n) = true := by simpa using hlt
      obtain ⟨a, x, rfl, hlx, p0, p1, p2, hxi⟩ := (H1.out.below hb).row I hlt
      obtain ⟨a', y, rfl, hly, q0, q1, q2, hyi⟩ := (H2.out.below hb).row I hlt
      have hxy : x.bare = y.bare := by
        have h3 := congrArg (fun l => l[I]?) HE.out
        simp only [List.getElem?_map, hlx, hly, Option.map_some, Option.some.injEq] at h3
        exact h3
      obtain ⟨e1, e2, e3⟩ := bare_same hxy
      have hxl := HL.out x (List.mem_of_getElem? hlx)
      obtain ⟨s, hs⟩ : ∃ s, s = x.name := ⟨_, rfl⟩
      obtain ⟨z, hz⟩ : ∃ z, z = x.size := ⟨_, rfl⟩
      obtain ⟨ks, hks⟩ : ∃ ks, ks = x.cells := ⟨_, rfl⟩
      obtain ⟨m, hm⟩ : ∃ m, m = ks.length := ⟨_, rfl⟩
      rw [← e1, ← hs] at q0
      rw [← e2, ← hz] at q1
      rw [← e3, ← hks, ← hm] at q2
      rw [← e3, ← hks] at hyi
      rw [← hs] at p0
      rw [← hz] at p1
      rw [← hks, ← hm] at p2
      rw [← hks] at hxi
      rw [← hks, ← hm] at hxl
      have n1 : (s.toList == s.toList) = true := by simp
      have n2 : (z == z) = true := by simp
      have n3 : (z != z) = false := by simp
      have hpc : ∀ {W : World}, Below wr.heap.size wr W → W.cell? (a.add (I * 3)) = some (.string s) ∧ W.cell? ⟨(a.add (I * 3)).block, (a.add (I * 3)).off + 1, none⟩ = some (.int .i64 z) ∧ W.cell? ⟨(a.add (I * 3)).block, (a.add (I * 3)).off + 2, none⟩ = some (.slice x.cA m x.cc) := fun hb =>
        ⟨(hb.cell (p := a.add (I * 3)) (block_lt_of_cell p0)).trans p0, (hb.cell (p := ⟨(a.add (I * 3)).block, (a.add (I * 3)).off + 1, none⟩) (block_lt_of_cell p1)).trans p1, (hb.cell (p := ⟨(a.add (I * 3)).block, (a.add (I * 3)).off + 2, none⟩) (block_lt_of_cell p2)).trans p2⟩
      have hqc : ∀ {W : World}, Below wr.heap.size wr W → W.cell? (a'.add (I * 3)) = some (.string s) ∧ W.cell? ⟨(a'.add (I * 3)).block, (a'.add (I * 3)).off + 1, none⟩ = some (.int .i64 z) ∧ W.cell? ⟨(a'.add (I * 3)).block, (a'.add (I * 3)).off + 2, none⟩ = some (.slice y.cA m y.cc) := fun hb =>
        ⟨(hb.cell (p := a'.add (I * 3)) (block_lt_of_cell q0)).trans q0, (hb.cell (p := ⟨(a'.add (I * 3)).block, (a'.add (I * 3)).off + 1, none⟩) (block_lt_of_cell q1)).trans q1, (hb.cell (p := ⟨(a'.add (I * 3)).block, (a'.add (I * 3)).off + 2, none⟩) (block_lt_of_cell q2)).trans q2⟩
      have HXI := hide hxi
      have HYI := hide hyi
      have HM := hide hm
      have HB := hide hb
      clear p0 p1 p2 q0 q1 q2 hxi hyi hm hb hlx hly hxy e1 e2 e3 hs hz hks
      go_upto_region 6 with fail
      obtain ⟨C, hC⟩ := cls_ex wr
      refine wp_region_cls hC (by kernel_rfl) (by kernel_rfl) ?_
      repeat (go_big_quiet_step ((intro hc; first | rfl | (refine (sameInts_yes (HXI.out.keep (hC.below _ hc)) (HYI.out.keep (hC.below _ hc)) HM.out hxl).mono ?_; rintro e w7 ⟨rfl, hb7⟩; exact ⟨rfl, hC.step _ _ hc hb7⟩) | (obtain ⟨e0, e1, e2⟩ := hpc (hC.below _ hc); obtain ⟨f0, f1, f2⟩ := hqc (hC.below _ hc); go_simp; first | done | exact ⟨rfl, rfl⟩ | rfl))))
      refine wpQuiet_nil ?_
      intro w7 hw7
      have HB7 := hide (below_step HB.out (hC.below _ hw7))
      clear hw7 hC hpc hqc
      go_wp2_with fail
      exact ⟨⟨I + 1, by go_num, by omega, HB7.out⟩, by simp [intOf]; omega⟩
    · obtain rfl : I = n := by omega
      have d0 : decide (I < I) = false := by simp
      have HB := hide hb
      clear hb
      go_wp2_with fail
      go_ret
      exact ⟨rfl, HB.out⟩

theorem long_any (s : ByteArray) (w : World) : Calls Tryz.prog 20 #[.string s] w fun e w' => e = .returned (.bool (decide (60 < s.size))) ∧ w = w' := by
  by_cases h : 60 < s.size
  · have c : decide (60 < s.size) = true := by simpa using h
    have c' : decide ((60 : Int) < (s.size : Int)) = true := by simp; omega
    rw [c]
    clear h
    go_enter Tryz.func20, Tryz.ntmps20
    go_wp2_with fail
    go_ret
    exact ⟨rfl, rfl⟩
  · have c : decide (60 < s.size) = false := by simpa using h
    have c' : decide ((60 : Int) < (s.size : Int)) = false := by simp; omega
    rw [c]
    clear h
    go_enter Tryz.func20, Tryz.ntmps20
    go_wp2_with fail
    go_ret
    exact ⟨rfl, rfl⟩
def longL (x : FileD) : Bool := decide (60 < x.name.size) || decide (30 < x.cells.length)
def shortL : List FileD → Bool
  | [] => true
  | x :: r => !longL x && shortL r
def shortB (l : List FileD) : Bool := decide (l.length ≤ 12) && shortL l
theorem shortL_step {l : List FileD} {I : Nat} {x : FileD} (hx : l[I]? = some x) : shortL (l.drop I) = (!longL x && shortL (l.drop (I + 1))) := by
  obtain ⟨h1, h2⟩ := List.getElem?_eq_some_iff.1 hx
  rw [List.drop_eq_getElem_cons h1, h2]
  rfl
theorem shortL_mem {l : List FileD} (h : shortL l = true) : ∀ x ∈ l, x.name.size ≤ 60 ∧ x.cells.length ≤ 30 := by
  induction l with
  | nil => intro x hx; cases hx
  | cons y r ih =>
    simp only [shortL, longL, Bool.and_eq_true, Bool.not_eq_true', Bool.or_eq_false_iff, decide_eq_false_iff_not] at h
    intro x hx
    rcases List.mem_cons.1 hx with e | e
    · rw [e]; omega
    · exact ih h.2 x e

set_option maxRecDepth 100000 in
set_option maxHeartbeats 4000000 in
theorem short_any {w : World} {A : Option Addr} {n c : Nat} {l : List FileD} (h : FilesAt w A n l) :
    Calls Tryz.prog 4 #[.slice A n c] w fun e w' => e = .returned (.bool (shortB l)) ∧ w = w' := by
  have H := hide h
  have HN := hide h.hn
  clear h
  by_cases h12 : 12 < n
  · have c8 : decide ((12 : Int) < (n : Int)) = true := by simp; omega
    have c8' : decide (12 < n) = true := by simpa using h12
    have e : shortB l = false := by unfold shortB; rw [← HN.out]; simp [show ¬ n ≤ 12 by omega]
    rw [e]
    clear e
    go_enter Tryz.func4, Tryz.ntmps4
    go_wp2_with fail
    go_ret
    exact ⟨rfl, rfl⟩
  · have c8 : decide ((12 : Int) < (n : Int)) = false := by simp; omega
    have c8' : decide (12 < n) = false := by simpa using h12
    have n12 : n ≤ 12 := by omega
    have e : shortB l = shortL l := by unfold shortB; rw [← HN.out]; simp [n12]
    rw [e]
    obtain ⟨R, hR⟩ : ∃ R, R = shortL l := ⟨_, rfl⟩
    rw [← hR]
    have HR := hide hR
    clear e hR h12
    go_enter Tryz.func4, Tryz.ntmps4
    go_wp2_with fail
    go_loopw [3] (fun i wr => ∃ I : Nat, i = .int .i64 (I : Int) ∧ I ≤ n ∧ R = shortL (l.drop I) ∧ w = wr) (fun i _ => n - (intOf i).toNat)
    case atStart => exact ⟨0, rfl, by omega, by rw [HR.out]; rfl, rfl⟩
    case round =>
      obtain ⟨I, rfl, hI, hres, rfl⟩ := hrel
      by_cases hlt : I < n
      · have d0 : decide (I < n) = true := by simpa using hlt
        obtain ⟨a, x, rfl, hlx, p0, p1, p2, -⟩ := H.out.row I hlt
        rw [shortL_step hlx] at hres
        obtain ⟨m, hm⟩ : ∃ m, m = x.cells.length := ⟨_, rfl⟩
        rw [← hm] at p2
        have HRES := hide hres
        have HM := hide hm
        clear hlx hres hm
        by_cases hs : 60 < x.name.size
        · have s1 : decide (60 < x.name.size) = true := by simpa using hs
          have hr : R = false := by rw [HRES.out]; unfold longL; rw [s1]; rfl
          have HRF := hide hr
          clear hr hs
          go_wp2_with (go_at_call 20; refine (long_any _ _).mono ?_; rintro e w1 ⟨rfl, rfl⟩; rw [s1])
          go_ret
          exact ⟨by rw [HRF.out]; rfl, rfl⟩
        · have s1 : decide (60 < x.name.size) = false := by simpa using hs
          by_cases hk : 30 < m
          · have s2 : decide (30 < m) = true := by simpa using hk
            have s2' : decide ((30 : Int) < (m : Int)) = true := by simp; omega
            have hr : R = false := by rw [HRES.out]; unfold longL; rw [← HM.out, s1, s2]; rfl
            have HRF := hide hr
            clear hr hs hk
            go_wp2_with (go_at_call 20; refine (long_any _ _).mono ?_; rintro e w1 ⟨rfl, rfl⟩; rw [s1])
            go_ret
            exact ⟨by rw [HRF.out]; rfl, rfl⟩
          · have s2 : decide (30 < m) = false := by simpa using hk
            have s2' : decide ((30 : Int) < (m : Int)) = false := by simp; omega
            have hr : R = shortL (l.drop (I + 1)) := by rw [HRES.out]; unfold longL; rw [← HM.out, s1, s2]; rfl
            have HRF := hide hr
            clear hr hs hk
            go_wp2_with (go_at_call 20; refine (long_any _ _).mono ?_; rintro e w1 ⟨rfl, rfl⟩; rw [s1])
            exact ⟨⟨I + 1, by go_num, by omega, HRF.out, trivial⟩, by simp [intOf]; omega⟩
      · have d0 : decide (I < n) = false := by simpa using hlt
        obtain rfl : I = n := by omega
        have hr : R = true := by rw [hres, List.drop_eq_nil_of_le (by rw [← HN.out]; exact Nat.le_refl _)]; rfl
        have HRF := hide hr
        clear hr hres
        go_wp2_with fail
        go_ret
        exact ⟨by rw [HRF.out]; rfl, rfl⟩
end Go.Proofs.YtmligbaalbbgiabGreatDoor

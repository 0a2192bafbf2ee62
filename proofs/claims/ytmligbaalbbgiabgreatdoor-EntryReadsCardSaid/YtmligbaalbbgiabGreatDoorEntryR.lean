/- The function entry.Right. Condition: the files can be read. -/
import Derived.Test.YtmligbaalbbgiabGreatDoorEntryF
import Derived.Test.YtmligbaalbbgiabGreatDoorLoose
namespace Go.Proofs.YtmligbaalbbgiabGreatDoor
open Go.RowKit

theorem need_big (n : Nat) (h : n ≤ 1920) : needN n ≤ 24 := by unfold needN; omega
set_option maxRecDepth 100000 in
set_option maxHeartbeats 8000000 in
theorem right_any {w : World} {A : Option Addr} {n c : Nat} {l : List FileD} (h : FilesAt w A n l) :
    Calls Tryz.prog 8 #[.slice A n c] w fun e w' => e = .returned (.bool (rightB l)) ∧ Below w.heap.size w w' := by
  have H := hide h
  have HN := hide h.hn
  clear h
  by_cases h8 : 8 < n
  · have c8 : decide ((8 : Int) < (n : Int)) = true := by simp; omega
    have c8' : decide (8 < n) = true := by simpa using h8
    have e : rightB l = false := by unfold rightB; rw [← HN.out]; simp [show ¬ n ≤ 8 by omega]
    rw [e]
    clear e
    go_enter Tryz.func8, Tryz.ntmps8
    go_wp2_with fail
    go_ret
    exact ⟨rfl, Below.refl _ _⟩
  · have c8 : decide ((8 : Int) < (n : Int)) = false := by simp; omega
    have c8' : decide (8 < n) = false := by simpa using h8
    have n8 : n ≤ 8 := by omega
    have e : rightB l = okFiles none [] l := by unfold rightB; rw [← HN.out]; simp [n8]
    rw [e]
    obtain ⟨R, hR⟩ : ∃ R, R = okFiles none [] l := ⟨_, rfl⟩
    rw [← hR]
    have HR := hide hR
    have hmm := @run_makeMap Tryz.prog
    obtain ⟨g, hg⟩ : ∃ g, g = w.heap.size := ⟨_, rfl⟩
    have HG := hide hg
    clear e hR h8 hg
    go_enter Tryz.func8, Tryz.ntmps8
    go_wp2_with fail
    obtain ⟨w1, hw1⟩ : ∃ w1, w1 = w.alloc (.map #[] 0) := ⟨_, rfl⟩
    have hb1 : Below w.heap.size w w1 := by rw [hw1]; exact (Below.refl _ _).alloc (Nat.le_refl _) _
    have hm1 : w1.heap[g]? = some (setO []) := by rw [hw1, HG.out]; exact heap_alloc_new w _
    rw [← hw1, ← HG.out]
    have HB1 := hide hb1
    have HM1 := hide hm1
    clear hw1 hb1 hm1 hmm
    go_loopw [14] (fun iv wr => ∃ (I : Nat) (seen : List Int), iv = .int .i64 (I : Int) ∧ I ≤ n ∧ Below w.heap.size w wr ∧ wr.heap[g]? = some (setO seen) ∧ R = okFiles (prevOf l I) seen (l.drop I)) (fun iv _ => n - (intOf iv).toNat)
    case atStart => exact ⟨0, [], rfl, by omega, HB1.out, HM1.out, by rw [HR.out]; rfl⟩
    case round =>
      clear HB1 HM1
      obtain ⟨I, seen, rfl, hI, hb, hm, hres⟩ := hrel
      by_cases hlt : I < n
      · have d0 : decide (I < n) = true := by simpa using hlt
        obtain ⟨a, x, rfl, hlx, q0, q1, q2, -⟩ := (H.out.below hb).row I hlt
        have hcs : IntsIn w x.cA x.cells := by
          obtain ⟨_, x', _, hlx', _, _, _, hcs'⟩ := H.out.row I hlt
          rw [hlx] at hlx'
          obtain rfl := Option.some.inj hlx'
          exact hcs'
        have hwf := H.out.wf x (List.mem_of_getElem? hlx)
        rw [okFiles_step hlx] at hres
        have hg2 : g < wr.heap.size := MapKept_lt hm
        have HB := hide hb
        have HM := hide hm
        have HRES := hide hres
        have HLX := hide hlx
        have HCS := hide hcs
        have HWF := hide hwf
        clear hb hm hres hlx hcs hwf
        go_upto_region 7 with fail
        obtain ⟨X, hX⟩ : ∃ X, X = wr.heap.size := ⟨_, rfl⟩
        obtain ⟨w6, hw6⟩ : ∃ w6, w6 = wr.alloc (.cells #[.string x.name, .int .i64 x.size, .slice x.cA x.cells.length x.cc] 44) := ⟨_, rfl⟩
        have hb6 : Below wr.heap.size wr w6 := by rw [hw6]; exact (Below.refl _ _).alloc (Nat.le_refl _) _
        have hx6 : Blk w6 X 44 #[.string x.name, .int .i64 x.size, .slice x.cA x.cells.length x.cc] := by rw [hw6, hX]; exact Blk.new _ _ _
        have HX6 := hide hx6
        have HB6 := hide hb6
        have HBW6 := hide (below_step HB.out hb6)
        have HM6 : Hid (w6.heap[g]? = some (setO seen)) := hide ((hb6.block g hg2).trans HM.out)
        have HG6 : Hid (g < w6.heap.size) := hide (Nat.lt_of_lt_of_le hg2 hb6.size)
        rw [← hw6, ← hX]
        clear hw6 hX hb6 hx6 HM hg2 q0 q1 q2
        go_cut [56] from 19 to 78 (fun cv wx => cv = .bool (!okFile (prevOf l I) x) ∧ Below w6.heap.size w6 wx)
        case first =>
          obtain ⟨C, hC⟩ := cls_ex w6
          have HNM := hide (fun W => name_any x.name HWF.out.1 W)
          have hxc : ∀ {W : World}, Below w6.heap.size w6 W → W.cell? ⟨X, 0, none⟩ = some (.string x.name) ∧ W.cell? ⟨X, 1, none⟩ = some (.int .i64 x.size) ∧ W.cell? ⟨X, 2, none⟩ = some (.slice x.cA x.cells.length x.cc) := fun hb => by
            have h := HX6.out.below hb HX6.out.lt
            exact ⟨h.cell 0, h.cell 1, h.cell 2⟩
          obtain ⟨nm, hnm⟩ : ∃ nm, nm = nameB (bl x.name) := ⟨_, rfl⟩
          have HNMD := hide hnm
          clear hnm
          cases nm with
          | false =>
            have hok : okFile (prevOf l I) x = false := by unfold okFile; rw [← HNMD.out]; rfl
            have HOK := hide hok
            clear hok
            refine wp_region_cls hC (by kernel_rfl) (by kernel_rfl) ?_
            repeat (go_big_quiet_step ((intro hc; first | rfl | (refine (HNM.out _).mono ?_; rintro e w7 ⟨rfl, hb7⟩; rw [← HNMD.out]; exact ⟨rfl, hC.step _ _ hc hb7⟩)  | (obtain ⟨e0, e1, e2⟩ := hxc (hC.below _ hc); go_simp; first | done | exact ⟨rfl, rfl⟩ | rfl | trace_state))))
            refine wpQuiet_nil ?_
            intro w7 hw7
            have HB7 := hide (hC.below _ hw7)
            clear hw7 hC
            go_wp2_with fail
            go_meet
            case rel => exact ⟨by rw [HOK.out]; rfl, HB7.out⟩
          | true =>
            by_cases hI0 : I = 0
            · have dI : decide (0 < I) = false := by simp; omega
              have dI' : decide ((0 : Int) < (I : Int)) = false := by simp; omega
              have hpv : prevOf l I = none := by unfold prevOf; rw [if_pos hI0]
              have HPV := hide hpv
              clear hpv hI0
              by_cases hs0 : x.size < 0
              · have s0 : decide (x.size < 0) = true := by simpa using hs0
                have hok : okFile (prevOf l I) x = false := by unfold okFile; rw [← HNMD.out, HPV.out]; simp [show ¬ 0 ≤ x.size by omega]
                have HOK := hide hok
                clear hok
                refine wp_region_cls hC (by kernel_rfl) (by kernel_rfl) ?_
                repeat (go_big_quiet_step ((intro hc; first | rfl | (refine (HNM.out _).mono ?_; rintro e w7 ⟨rfl, hb7⟩; rw [← HNMD.out]; exact ⟨rfl, hC.step _ _ hc hb7⟩)  | (obtain ⟨e0, e1, e2⟩ := hxc (hC.below _ hc); go_simp; first | done | exact ⟨rfl, rfl⟩ | rfl | trace_state))))
                refine wpQuiet_nil ?_
                intro w7 hw7
                have HB7 := hide (hC.below _ hw7)
                clear hw7 hC
                go_wp2_with fail
                go_meet
                case rel => exact ⟨by rw [HOK.out]; rfl, HB7.out⟩
              · have s0 : decide (x.size < 0) = false := by simpa using hs0
                by_cases hs1 : 1920 < x.size
                · have s1 : decide (1920 < x.size) = true := by simpa using hs1
                  have hok : okFile (prevOf l I) x = false := by unfold okFile; rw [← HNMD.out, HPV.out]; simp [show ¬ x.size ≤ 1920 by omega]
                  have HOK := hide hok
                  clear hok
                  refine wp_region_cls hC (by kernel_rfl) (by kernel_rfl) ?_
                  repeat (go_big_quiet_step ((intro hc; first | rfl | (refine (HNM.out _).mono ?_; rintro e w7 ⟨rfl, hb7⟩; rw [← HNMD.out]; exact ⟨rfl, hC.step _ _ hc hb7⟩)  | (obtain ⟨e0, e1, e2⟩ := hxc (hC.below _ hc); go_simp; first | done | exact ⟨rfl, rfl⟩ | rfl | trace_state))))
                  refine wpQuiet_nil ?_
                  intro w7 hw7
                  have HB7 := hide (hC.below _ hw7)
                  clear hw7 hC
                  go_wp2_with fail
                  go_meet
                  case rel => exact ⟨by rw [HOK.out]; rfl, HB7.out⟩
                · have s1 : decide (1920 < x.size) = false := by simpa using hs1
                  obtain ⟨sz, hsz⟩ := Int.eq_ofNat_of_zero_le (show 0 ≤ x.size by omega)
                  have hsn : sz ≤ 1920 := by omega
                  have HSZ := hide hsz
                  have hnn : needN x.size.toNat = needN sz := by rw [hsz]; rfl
                  have HNN := hide hnn
                  rw [hsz] at s0 s1 hs0 hs1 hxc
                  clear hsz hnn
                  by_cases hc : x.cells.length = needN sz
                  · have s2 : ((x.cells.length : Int) != (needN sz : Int)) = false := by simp [hc]
                    have s2' : (x.cells.length != needN sz) = false := by simp [hc]
                    have HC := hide hc
                    clear hc
                    have hok : okFile (prevOf l I) x = true := by unfold okFile; rw [← HNMD.out, HPV.out]; rw [HNN.out, HSZ.out]; simp [HC.out]; omega
                    have HOK := hide hok
                    clear hok
                    refine wp_region_cls hC (by kernel_rfl) (by kernel_rfl) ?_
                    repeat (go_big_quiet_step ((intro hc; first | rfl | (refine (HNM.out _).mono ?_; rintro e w7 ⟨rfl, hb7⟩; rw [← HNMD.out]; exact ⟨rfl, hC.step _ _ hc hb7⟩) | (refine (need_any sz (by omega) _).mono ?_; rintro e w' ⟨rfl, rfl⟩; exact ⟨rfl, hc⟩) | (obtain ⟨e0, e1, e2⟩ := hxc (hC.below _ hc); go_simp; first | done | exact ⟨rfl, rfl⟩ | rfl | trace_state))))
                    refine wpQuiet_nil ?_
                    intro w7 hw7
                    have HB7 := hide (hC.below _ hw7)
                    clear hw7 hC
                    go_wp2_with fail
                    go_meet
                    case rel => exact ⟨by rw [HOK.out]; rfl, HB7.out⟩
                  · have s2 : ((x.cells.length : Int) != (needN sz : Int)) = true := by simp; omega
                    have s2' : (x.cells.length != needN sz) = true := by simpa using hc
                    have HC := hide hc
                    clear hc
                    have hok : okFile (prevOf l I) x = false := by unfold okFile; rw [← HNMD.out, HPV.out]; rw [HNN.out]; simp [HC.out]
                    have HOK := hide hok
                    clear hok
                    refine wp_region_cls hC (by kernel_rfl) (by kernel_rfl) ?_
                    repeat (go_big_quiet_step ((intro hc; first | rfl | (refine (HNM.out _).mono ?_; rintro e w7 ⟨rfl, hb7⟩; rw [← HNMD.out]; exact ⟨rfl, hC.step _ _ hc hb7⟩) | (refine (need_any sz (by omega) _).mono ?_; rintro e w' ⟨rfl, rfl⟩; exact ⟨rfl, hc⟩) | (obtain ⟨e0, e1, e2⟩ := hxc (hC.below _ hc); go_simp; first | done | exact ⟨rfl, rfl⟩ | rfl | trace_state))))
                    refine wpQuiet_nil ?_
                    intro w7 hw7
                    have HB7 := hide (hC.below _ hw7)
                    clear hw7 hC
                    go_wp2_with fail
                    go_meet
                    case rel => exact ⟨by rw [HOK.out]; rfl, HB7.out⟩
            · have dI : decide (0 < I) = true := by simp; omega
              have dI' : decide ((0 : Int) < (I : Int)) = true := by simp; omega
              have hw1 : wrap64 ((I : Int) - 1) = ((I - 1 : Nat) : Int) := by simp only [wrap64]; omega
              have hw2 : IntKind.i64.wrap ((I : Int) - 1) = ((I - 1 : Nat) : Int) := by simp [IntKind.wrap, IntKind.bits, IntKind.signed]; omega
              have hIn : I - 1 < n := by omega
              have hIn' : ((I - 1 : Nat) : Int) < (n : Int) := by omega
              have hI0' : (0 : Int) ≤ ((I - 1 : Nat) : Int) := by omega
              obtain ⟨a', y, ha, hly, p0, -, -, -⟩ := (H.out.below HBW6.out).row (I - 1) hIn
              obtain rfl := Option.some.inj ha
              obtain ⟨p, hp⟩ : ∃ p, p = y.name := ⟨_, rfl⟩
              rw [← hp] at p0
              have hpv : prevOf l I = some p := by unfold prevOf; rw [if_neg hI0, hly, hp]; rfl
              have HPV := hide hpv
              have hpc : ∀ {W : World}, Below w6.heap.size w6 W → W.cell? (a.add ((I - 1) * 3)) = some (.string p) := fun hb => by rw [hb.cell (p := a.add ((I - 1) * 3)) (block_lt_of_cell p0)]; exact p0
              clear hpv hp hly ha
              obtain ⟨lt, hlt3⟩ : ∃ lt, lt = Op.bytesLess p.toList x.name.toList := ⟨_, rfl⟩
              have HPL := hide hlt3.symm
              have hpl : Op.bytesLess p.toList x.name.toList = lt := hlt3.symm
              clear hlt3
              cases lt with
              | false =>
                have hok : okFile (prevOf l I) x = false := by unfold okFile; rw [← HNMD.out, HPV.out]; simp [HPL.out]
                have HOK := hide hok
                clear hok
                refine wp_region_cls hC (by kernel_rfl) (by kernel_rfl) ?_
                repeat (go_big_quiet_step ((intro hc; first | rfl | (refine (HNM.out _).mono ?_; rintro e w7 ⟨rfl, hb7⟩; rw [← HNMD.out]; exact ⟨rfl, hC.step _ _ hc hb7⟩)  | (obtain ⟨e0, e1, e2⟩ := hxc (hC.below _ hc); have ep := hpc (hC.below _ hc); go_simp; first | done | exact ⟨rfl, rfl⟩ | rfl | trace_state))))
                refine wpQuiet_nil ?_
                intro w7 hw7
                have HB7 := hide (hC.below _ hw7)
                clear hw7 hC
                go_wp2_with fail
                go_meet
                case rel => exact ⟨by rw [HOK.out]; rfl, HB7.out⟩
              | true =>
                by_cases hs0 : x.size < 0
                · have s0 : decide (x.size < 0) = true := by simpa using hs0
                  have hok : okFile (prevOf l I) x = false := by unfold okFile; rw [← HNMD.out, HPV.out]; simp [HPL.out, show ¬ 0 ≤ x.size by omega]
                  have HOK := hide hok
                  clear hok
                  refine wp_region_cls hC (by kernel_rfl) (by kernel_rfl) ?_
                  repeat (go_big_quiet_step ((intro hc; first | rfl | (refine (HNM.out _).mono ?_; rintro e w7 ⟨rfl, hb7⟩; rw [← HNMD.out]; exact ⟨rfl, hC.step _ _ hc hb7⟩)  | (obtain ⟨e0, e1, e2⟩ := hxc (hC.below _ hc); have ep := hpc (hC.below _ hc); go_simp; first | done | exact ⟨rfl, rfl⟩ | rfl | trace_state))))
                  refine wpQuiet_nil ?_
                  intro w7 hw7
                  have HB7 := hide (hC.below _ hw7)
                  clear hw7 hC
                  go_wp2_with fail
                  go_meet
                  case rel => exact ⟨by rw [HOK.out]; rfl, HB7.out⟩
                · have s0 : decide (x.size < 0) = false := by simpa using hs0
                  by_cases hs1 : 1920 < x.size
                  · have s1 : decide (1920 < x.size) = true := by simpa using hs1
                    have hok : okFile (prevOf l I) x = false := by unfold okFile; rw [← HNMD.out, HPV.out]; simp [HPL.out, show ¬ x.size ≤ 1920 by omega]
                    have HOK := hide hok
                    clear hok
                    refine wp_region_cls hC (by kernel_rfl) (by kernel_rfl) ?_
                    repeat (go_big_quiet_step ((intro hc; first | rfl | (refine (HNM.out _).mono ?_; rintro e w7 ⟨rfl, hb7⟩; rw [← HNMD.out]; exact ⟨rfl, hC.step _ _ hc hb7⟩)  | (obtain ⟨e0, e1, e2⟩ := hxc (hC.below _ hc); have ep := hpc (hC.below _ hc); go_simp; first | done | exact ⟨rfl, rfl⟩ | rfl | trace_state))))
                    refine wpQuiet_nil ?_
                    intro w7 hw7
                    have HB7 := hide (hC.below _ hw7)
                    clear hw7 hC
                    go_wp2_with fail
                    go_meet
                    case rel => exact ⟨by rw [HOK.out]; rfl, HB7.out⟩
                  · have s1 : decide (1920 < x.size) = false := by simpa using hs1
                    obtain ⟨sz, hsz⟩ := Int.eq_ofNat_of_zero_le (show 0 ≤ x.size by omega)
                    have hsn : sz ≤ 1920 := by omega
                    have HSZ := hide hsz
                    have hnn : needN x.size.toNat = needN sz := by rw [hsz]; rfl
                    have HNN := hide hnn
                    rw [hsz] at s0 s1 hs0 hs1 hxc
                    clear hsz hnn
                    by_cases hc : x.cells.length = needN sz
                    · have s2 : ((x.cells.length : Int) != (needN sz : Int)) = false := by simp [hc]
                      have s2' : (x.cells.length != needN sz) = false := by simp [hc]
                      have HC := hide hc
                      clear hc
                      have hok : okFile (prevOf l I) x = true := by unfold okFile; rw [← HNMD.out, HPV.out]; rw [HNN.out, HSZ.out]; simp [HPL.out, HC.out]; omega
                      have HOK := hide hok
                      clear hok
                      refine wp_region_cls hC (by kernel_rfl) (by kernel_rfl) ?_
                      repeat (go_big_quiet_step ((intro hc; first | rfl | (refine (HNM.out _).mono ?_; rintro e w7 ⟨rfl, hb7⟩; rw [← HNMD.out]; exact ⟨rfl, hC.step _ _ hc hb7⟩) | (refine (need_any sz (by omega) _).mono ?_; rintro e w' ⟨rfl, rfl⟩; exact ⟨rfl, hc⟩) | (obtain ⟨e0, e1, e2⟩ := hxc (hC.below _ hc); have ep := hpc (hC.below _ hc); go_simp; first | done | exact ⟨rfl, rfl⟩ | rfl | trace_state))))
                      refine wpQuiet_nil ?_
                      intro w7 hw7
                      have HB7 := hide (hC.below _ hw7)
                      clear hw7 hC
                      go_wp2_with fail
                      go_meet
                      case rel => exact ⟨by rw [HOK.out]; rfl, HB7.out⟩
                    · have s2 : ((x.cells.length : Int) != (needN sz : Int)) = true := by simp; omega
                      have s2' : (x.cells.length != needN sz) = true := by simpa using hc
                      have HC := hide hc
                      clear hc
                      have hok : okFile (prevOf l I) x = false := by unfold okFile; rw [← HNMD.out, HPV.out]; rw [HNN.out]; simp [HC.out]
                      have HOK := hide hok
                      clear hok
                      refine wp_region_cls hC (by kernel_rfl) (by kernel_rfl) ?_
                      repeat (go_big_quiet_step ((intro hc; first | rfl | (refine (HNM.out _).mono ?_; rintro e w7 ⟨rfl, hb7⟩; rw [← HNMD.out]; exact ⟨rfl, hC.step _ _ hc hb7⟩) | (refine (need_any sz (by omega) _).mono ?_; rintro e w' ⟨rfl, rfl⟩; exact ⟨rfl, hc⟩) | (obtain ⟨e0, e1, e2⟩ := hxc (hC.below _ hc); have ep := hpc (hC.below _ hc); go_simp; first | done | exact ⟨rfl, rfl⟩ | rfl | trace_state))))
                      refine wpQuiet_nil ?_
                      intro w7 hw7
                      have HB7 := hide (hC.below _ hw7)
                      clear hw7 hC
                      go_wp2_with fail
                      go_meet
                      case rel => exact ⟨by rw [HOK.out]; rfl, HB7.out⟩
        case rest =>
          obtain ⟨rfl, hbc⟩ := hcut
          have HMC : Hid (wc.heap[g]? = some (setO seen)) := hide ((hbc.block g HG6.out).trans HM6.out)
          have HBC := hide (below_step HBW6.out hbc)
          have e2 : wc.cell? ⟨X, 2, none⟩ = some (.slice x.cA x.cells.length x.cc) := by
            have h := HX6.out.below hbc HX6.out.lt
            exact h.cell 2
          clear hbc
          obtain ⟨ok, hok⟩ : ∃ ok, ok = okFile (prevOf l I) x := ⟨_, rfl⟩
          rw [← hok]
          have HOK := hide hok
          clear hok
          cases ok with
          | false =>
            have hr : R = false := by rw [HRES.out, ← HOK.out]; rfl
            have HRF := hide hr
            clear hr
            go_wp2_with fail
            go_ret
            exact ⟨by rw [HRF.out]; rfl, HBC.out⟩
          | true =>
            have HRES2 : Hid (R = match okCells seen x.cells with | none => false | some s => okFiles (some x.name) s (List.drop (I + 1) l)) := hide (by rw [HRES.out, ← HOK.out]; rfl)
            obtain ⟨m, hm⟩ : ∃ m, m = x.cells.length := ⟨_, rfl⟩
            rw [← hm] at e2
            have HMD := hide hm
            have hm9 : m ≤ 9223372036854775807 := by rw [hm]; exact HWF.out.2.1
            clear hm
            go_upto_region 10 with fail
            clear e2
            go_loopw [60] (fun jv W => ∃ (J : Nat) (seen2 : List Int), jv = .int .i64 (J : Int) ∧ J ≤ m ∧ Below w.heap.size w W ∧ W.heap[g]? = some (setO seen2) ∧ okCells seen x.cells = okCells seen2 (x.cells.drop J)) (fun jv _ => m - (intOf jv).toNat)
            case atStart => exact ⟨0, seen, rfl, by omega, HBC.out, HMC.out, rfl⟩
            case round =>
              clear HBC HMC
              obtain ⟨J, seen2, rfl, hJ, hb2, hm2, hoc⟩ := hrel
              by_cases hlt2 : J < m
              · have d1 : decide (J < m) = true := by simpa using hlt2
                have hJl : J < x.cells.length := by rw [← HMD.out]; exact hlt2
                obtain ⟨k, hk⟩ : ∃ k, k = x.cells.getD J 0 := ⟨_, rfl⟩
                have hke : x.cells[J] = k := by rw [hk]; simp [List.getD, hJl]
                obtain ⟨ca, hca, hcb, hcc⟩ := (HCS.out.keep (hb2)) (by omega)
                have q5 := hcc J hJl
                rw [← hk] at q5
                have hoc2 : okCells seen x.cells = (if k < 3 ∨ 24 ≤ k ∨ k ∈ seen2 then none else okCells (seen2 ++ [k]) (x.cells.drop (J + 1))) := by
                  rw [hoc, List.drop_eq_getElem_cons hJl, hke]
                  rfl
                rw [hca]
                have HOC2 := hide hoc2
                have HB2 := hide hb2
                have HM2 := hide hm2
                have hget := set_get seen2 k g _ hm2
                clear hoc2 hb2 hm2 hoc hca hcc hk hke hcb
                by_cases hk3 : k < 3
                · have b1 : decide (k < 3) = true := by simpa using hk3
                  have hr : R = false := by rw [HRES2.out, HOC2.out, if_pos (.inl hk3)]
                  have HRF := hide hr
                  clear hr hget hk3
                  go_wp2_with fail
                  go_ret
                  exact ⟨by rw [HRF.out]; rfl, HB2.out⟩
                · have b1 : decide (k < 3) = false := by simpa using hk3
                  by_cases hk24 : 24 ≤ k
                  · have b2 : decide (24 ≤ k) = true := by simpa using hk24
                    have hr : R = false := by rw [HRES2.out, HOC2.out, if_pos (.inr (.inl hk24))]
                    have HRF := hide hr
                    clear hr hget hk3 hk24
                    go_wp2_with fail
                    go_ret
                    exact ⟨by rw [HRF.out]; rfl, HB2.out⟩
                  · have b2 : decide (24 ≤ k) = false := by simpa using hk24
                    by_cases hks : k ∈ seen2
                    · have b3 : decide (k ∈ seen2) = true := by simpa using hks
                      have hr : R = false := by rw [HRES2.out, HOC2.out, if_pos (.inr (.inr hks))]
                      have HRF := hide hr
                      rw [b3] at hget
                      clear hr hk3 hk24 hks b3
                      go_wp2_with fail
                      go_ret
                      exact ⟨by rw [HRF.out]; rfl, HB2.out⟩
                    · have b3 : decide (k ∈ seen2) = false := by simpa using hks
                      rw [b3] at hget
                      have hput := set_put seen2 k g _ HM2.out hks
                      have hoc3 : okCells seen x.cells = okCells (seen2 ++ [k]) (x.cells.drop (J + 1)) := by rw [HOC2.out, if_neg (fun h => h.elim hk3 (fun h => h.elim hk24 hks))]
                      have HOC3 := hide hoc3
                      have HKS := hide hks
                      clear hk3 hk24 b3 hoc3 HOC2 hks
                      go_wp2_with fail
                      go_roundw
                      case rel => exact ⟨J + 1, seen2 ++ [k], by go_num, by omega, Below.setBlk HB2.out HM2.out (by rw [HG.out]; exact Nat.le_refl _), setBlk_heap HM2.out, HOC3.out⟩
                      case measure => simp [intOf]; omega
              · have d1 : decide (J < m) = false := by simpa using hlt2
                obtain rfl : J = m := by omega
                have hoc2 : okCells seen x.cells = some seen2 := by
                  rw [hoc, List.drop_eq_nil_of_le (by rw [← HMD.out]; exact Nat.le_refl _)]
                  rfl
                have hr : R = okFiles (prevOf l (I + 1)) seen2 (List.drop (I + 1) l) := by
                  rw [HRES2.out, hoc2, prevOf_next HLX.out]
                have HR3 := hide hr
                have HB2 := hide hb2
                have HM2 := hide hm2
                clear hr hoc2 hoc hb2 hm2
                go_wp2_with fail
                go_roundw
                case rel => exact ⟨I + 1, seen2, by go_num, by omega, HB2.out, HM2.out, HR3.out⟩
                case measure => simp [intOf]; omega
      · have d0 : decide (I < n) = false := by simpa using hlt
        obtain rfl : I = n := by omega
        have hr : R = true := by
          rw [hres, List.drop_eq_nil_of_le (by rw [← HN.out]; exact Nat.le_refl _)]
          rfl
        have HRF := hide hr
        have HB := hide hb
        clear hr hres hm hb
        go_wp2_with fail
        go_ret
        exact ⟨by rw [HRF.out]; rfl, HB.out⟩
end Go.Proofs.YtmligbaalbbgiabGreatDoor

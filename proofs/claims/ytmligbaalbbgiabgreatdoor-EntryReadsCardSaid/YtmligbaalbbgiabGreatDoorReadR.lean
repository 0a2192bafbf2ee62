/- The reference's Right. Condition: the files can be read, and are no more than 65536. -/
import Derived.Test.YtmligbaalbbgiabGreatDoorReadP
namespace Go.Proofs.YtmligbaalbbgiabGreatDoor
open Go.RowKit

theorem leq_less : ∀ a b : List UInt8, (Op.bytesLess a b || a == b) = !Op.bytesLess b a
  | [], [] => rfl
  | _ :: _, [] => rfl
  | [], _ :: _ => rfl
  | a :: x, b :: y => by
    have ih := leq_less x y
    rw [Op.bytesLess, Op.bytesLess]
    have hc : ((a :: x) == (b :: y)) = (a == b && x == y) := rfl
    rw [hc]
    by_cases h : a = b
    · subst h
      have h1 : ¬ a < a := UInt8.lt_irrefl a
      simpa [h1] using ih
    · have h2 : (a == b) = false := by simpa using h
      have h3 : (b == a) = false := by simpa using fun e : b = a => h e.symm
      rw [h2, h3]
      have h5 : a.toNat ≠ b.toNat := fun e => h (UInt8.toNat_inj.1 e)
      by_cases h4 : a < b
      · have h6 : ¬ b < a := by rw [UInt8.lt_iff_toNat_lt] at *; omega
        simp [h4, h6]
      · have h6 : b < a := by rw [UInt8.lt_iff_toNat_lt] at *; omega
        simp [h4, h6]

set_option maxRecDepth 100000 in
set_option maxHeartbeats 8000000 in
theorem refright_any {w : World} {A : Option Addr} {n c : Nat} {l : List FileD} (h : FilesAt w A n l) (hn : n ≤ 65536) :
    Calls Tryz.prog 9 #[.slice A n c] w fun e w' => e = .returned (.bool (rightB l)) ∧ Below w.heap.size w w' := by
  have H := hide h
  have HN := hide h.hn
  clear h
  obtain ⟨R, hR⟩ : ∃ R, R = rightB l := ⟨_, rfl⟩
  rw [← hR]
  have hR2 : R = (decide (n ≤ 8) && goR none [] 0 l) := by rw [hR, right_ref, HN.out]
  have HR := hide hR2
  have hmm := @run_makeMap Tryz.prog
  obtain ⟨g, hg⟩ : ∃ g, g = w.heap.size := ⟨_, rfl⟩
  have HG := hide hg
  clear hR hR2 hg
  go_enter Tryz.func9, Tryz.ntmps9
  go_wp2_with fail
  obtain ⟨w1, hw1⟩ : ∃ w1, w1 = w.alloc (.map #[] 0) := ⟨_, rfl⟩
  have hb1 : Below w.heap.size w w1 := by rw [hw1]; exact (Below.refl _ _).alloc (Nat.le_refl _) _
  have hm1 : w1.heap[g]? = some (setO []) := by rw [hw1, HG.out]; exact heap_alloc_new w _
  rw [← hw1, ← HG.out]
  have HB1 := hide hb1
  have HM1 := hide hm1
  clear hw1 hb1 hm1 hmm
  go_loopw [4, 12] (fun cv iv wr => ∃ (I K : Nat) (seen : List Int), iv = .int .i64 (I : Int) ∧ cv = .int .i64 (K : Int) ∧ I ≤ n ∧ K ≤ 24 * I ∧ Below w.heap.size w wr ∧ wr.heap[g]? = some (setO seen) ∧ R = (decide (n ≤ 8) && goR (prevOf l I) seen K (l.drop I))) (fun _ iv _ => n - (intOf iv).toNat)
  case atStart => exact ⟨0, 0, [], rfl, rfl, by omega, by omega, HB1.out, HM1.out, by rw [HR.out]; rfl⟩
  case round =>
    clear HB1 HM1
    obtain ⟨I, K, seen, rfl, rfl, hI, hK, hb, hm, hres⟩ := hrel
    by_cases hlt : I < n
    · have d0 : decide (I < n) = true := by simpa using hlt
      obtain ⟨a, x, rfl, hlx, q0, q1, q2, -⟩ := (H.out.below hb).row I hlt
      have hcs : IntsIn w x.cA x.cells := by
        obtain ⟨_, x', _, hlx', _, _, _, hcs'⟩ := H.out.row I hlt
        rw [hlx] at hlx'
        obtain rfl := Option.some.inj hlx'
        exact hcs'
      have hwf := H.out.wf x (List.mem_of_getElem? hlx)
      rw [goR_step hlx] at hres
      have hg2 : g < wr.heap.size := MapKept_lt hm
      have HB := hide hb
      have HM := hide hm
      have HRES := hide hres
      have HLX := hide hlx
      have HCS := hide hcs
      have HWF := hide hwf
      clear hb hm hres hlx hcs hwf
      go_upto_region 6 with fail
      obtain ⟨X, hX⟩ : ∃ X, X = wr.heap.size := ⟨_, rfl⟩
      obtain ⟨w6, hw6⟩ : ∃ w6, w6 = wr.alloc (.cells #[.string x.name, .int .i64 x.size, .slice x.cA x.cells.length x.cc] 44) := ⟨_, rfl⟩
      have hb6 : Below wr.heap.size wr w6 := by rw [hw6]; exact (Below.refl _ _).alloc (Nat.le_refl _) _
      have hx6 : Blk w6 X 44 #[.string x.name, .int .i64 x.size, .slice x.cA x.cells.length x.cc] := by rw [hw6, hX]; exact Blk.new _ _ _
      have HX6 := hide hx6
      have HB6 := hide hb6
      have HBW6 := hide (below_step HB.out hb6)
      have HM6 : Hid (w6.heap[g]? = some (setO seen)) := hide ((hb6.block g hg2).trans HM.out)
      have HG6 : Hid (g < w6.heap.size) := hide (Nat.lt_of_lt_of_le hg2 hb6.size)
      rw [← hw6, ← hX]
      clear hw6 hX hb6 hx6 HM hg2 q0 q1 q2
      go_cut [50] from 17 to 66 (fun cv wx => cv = .bool (!okFile (prevOf l I) x) ∧ Below w6.heap.size w6 wx)
      case first =>
        obtain ⟨C, hC⟩ := cls_ex w6
        have HNM := hide (fun W => refname_any x.name HWF.out.1 W)
        have hxc : ∀ {W : World}, Below w6.heap.size w6 W → W.cell? ⟨X, 0, none⟩ = some (.string x.name) ∧ W.cell? ⟨X, 1, none⟩ = some (.int .i64 x.size) ∧ W.cell? ⟨X, 2, none⟩ = some (.slice x.cA x.cells.length x.cc) := fun hb => by
          have h := HX6.out.below hb HX6.out.lt
          exact ⟨h.cell 0, h.cell 1, h.cell 2⟩
        obtain ⟨nm, hnm⟩ : ∃ nm, nm = nameB (bl x.name) := ⟨_, rfl⟩
        have HNMD := hide hnm
        clear hnm
        cases nm with
        | false =>
          have hok : okFile (prevOf l I) x = false := by unfold okFile; rw [← HNMD.out]; rfl
          have HOK := hide hok
          clear hok
          refine wp_region_cls hC (by kernel_rfl) (by kernel_rfl) ?_
          repeat (go_big_quiet_step ((intro hc; first | rfl | (refine (HNM.out _).mono ?_; rintro e w7 ⟨rfl, rfl⟩; rw [← HNMD.out]; exact ⟨rfl, hc⟩) | (obtain ⟨e0, e1, e2⟩ := hxc (hC.below _ hc); go_simp; first | done | exact ⟨rfl, rfl⟩ | rfl))))
          refine wpQuiet_nil ?_
          intro w7 hw7
          have HB7 := hide (hC.below _ hw7)
          clear hw7 hC
          go_wp2_with fail
          go_meet
          case rel => exact ⟨by rw [HOK.out]; rfl, HB7.out⟩
        | true =>
          by_cases hI0 : I = 0
          · have dI : decide (0 < I) = false := by simp; omega
            have dI' : decide ((0 : Int) < (I : Int)) = false := by simp; omega
            have hpv : prevOf l I = none := by unfold prevOf; rw [if_pos hI0]
            have HPV := hide hpv
            clear hpv hI0
            by_cases hs0 : 0 ≤ x.size ∧ x.size ≤ 1920
            · have hin : decide ((0 : Int) ≤ x.size ∧ x.size ≤ 1920) = true := by simpa using hs0
              have HIN := hide hin
              clear hin
              obtain ⟨sz, hsz⟩ := Int.eq_ofNat_of_zero_le hs0.1
              have hsn : sz ≤ 1920 := by omega
              have HSZ := hide hsz
              have hnn : needN x.size.toNat = needN sz := by rw [hsz]; rfl
              have HNN := hide hnn
              have hnd : ∀ W : World, Calls Tryz.prog 13 #[.int .i64 x.size] W fun e w' => e = .returned (.int .i64 (needN sz : Int)) ∧ W = w' := fun W => (refneed_z x.size (by omega) (by omega) W).mono fun e w' ⟨he, hw⟩ => ⟨by rw [he, hsz, needZ_nat], hw⟩
              have HND := hide hnd
              clear hsz hnn hnd
              by_cases hc : x.cells.length = needN sz
              · have s2 : ((x.cells.length : Int) != (needN sz : Int)) = false := by simp [hc]
                have s2' : (x.cells.length != needN sz) = false := by simp [hc]
                have HC := hide hc
                clear hc
                have hok : okFile (prevOf l I) x = true := by unfold okFile; rw [← HNMD.out, HPV.out]; rw [HNN.out]; simp [HC.out]; omega
                have HOK := hide hok
                clear hok
                refine wp_region_cls hC (by kernel_rfl) (by kernel_rfl) ?_
                repeat (go_big_quiet_step ((intro hc; first | rfl | (refine (HNM.out _).mono ?_; rintro e w7 ⟨rfl, rfl⟩; rw [← HNMD.out]; exact ⟨rfl, hc⟩) | (refine (in_any x.size 0 1920 _).mono ?_; rintro e w7 ⟨rfl, rfl⟩; rw [HIN.out]; exact ⟨rfl, hc⟩) | (refine (HND.out _).mono ?_; rintro e w7 ⟨rfl, rfl⟩; exact ⟨rfl, hc⟩) | (obtain ⟨e0, e1, e2⟩ := hxc (hC.below _ hc); go_simp; first | done | exact ⟨rfl, rfl⟩ | rfl))))
                refine wpQuiet_nil ?_
                intro w7 hw7
                have HB7 := hide (hC.below _ hw7)
                clear hw7 hC
                go_wp2_with fail
                go_meet
                case rel => exact ⟨by rw [HOK.out]; rfl, HB7.out⟩
              · have s2 : ((x.cells.length : Int) != (needN sz : Int)) = true := by simp; omega
                have s2' : (x.cells.length != needN sz) = true := by simpa using hc
                have HC := hide hc
                clear hc
                have hok : okFile (prevOf l I) x = false := by unfold okFile; rw [← HNMD.out, HPV.out]; rw [HNN.out]; simp [HC.out]
                have HOK := hide hok
                clear hok
                refine wp_region_cls hC (by kernel_rfl) (by kernel_rfl) ?_
                repeat (go_big_quiet_step ((intro hc; first | rfl | (refine (HNM.out _).mono ?_; rintro e w7 ⟨rfl, rfl⟩; rw [← HNMD.out]; exact ⟨rfl, hc⟩) | (refine (in_any x.size 0 1920 _).mono ?_; rintro e w7 ⟨rfl, rfl⟩; rw [HIN.out]; exact ⟨rfl, hc⟩) | (refine (HND.out _).mono ?_; rintro e w7 ⟨rfl, rfl⟩; exact ⟨rfl, hc⟩) | (obtain ⟨e0, e1, e2⟩ := hxc (hC.below _ hc); go_simp; first | done | exact ⟨rfl, rfl⟩ | rfl))))
                refine wpQuiet_nil ?_
                intro w7 hw7
                have HB7 := hide (hC.below _ hw7)
                clear hw7 hC
                go_wp2_with fail
                go_meet
                case rel => exact ⟨by rw [HOK.out]; rfl, HB7.out⟩
            · have hin : decide ((0 : Int) ≤ x.size ∧ x.size ≤ 1920) = false := by simpa using hs0
              have HIN := hide hin
              clear hin
              have hok : okFile (prevOf l I) x = false := by unfold okFile; rw [← HNMD.out, HPV.out]; rw [Bool.eq_false_iff]; simp only [ne_eq, Bool.and_eq_true, decide_eq_true_eq, not_and]; omega
              have HOK := hide hok
              clear hok
              refine wp_region_cls hC (by kernel_rfl) (by kernel_rfl) ?_
              repeat (go_big_quiet_step ((intro hc; first | rfl | (refine (HNM.out _).mono ?_; rintro e w7 ⟨rfl, rfl⟩; rw [← HNMD.out]; exact ⟨rfl, hc⟩) | (refine (in_any x.size 0 1920 _).mono ?_; rintro e w7 ⟨rfl, rfl⟩; rw [HIN.out]; exact ⟨rfl, hc⟩) | (obtain ⟨e0, e1, e2⟩ := hxc (hC.below _ hc); go_simp; first | done | exact ⟨rfl, rfl⟩ | rfl))))
              refine wpQuiet_nil ?_
              intro w7 hw7
              have HB7 := hide (hC.below _ hw7)
              clear hw7 hC
              go_wp2_with fail
              go_meet
              case rel => exact ⟨by rw [HOK.out]; rfl, HB7.out⟩
          · have dI : decide (0 < I) = true := by simp; omega
            have dI' : decide ((0 : Int) < (I : Int)) = true := by simp; omega
            have hw1 : wrap64 ((I : Int) - 1) = ((I - 1 : Nat) : Int) := by simp only [wrap64]; omega
            have hw2 : IntKind.i64.wrap ((I : Int) - 1) = ((I - 1 : Nat) : Int) := by simp [IntKind.wrap, IntKind.bits, IntKind.signed]; omega
            have hIn : I - 1 < n := by omega
            have hIn' : ((I - 1 : Nat) : Int) < (n : Int) := by omega
            have hI0' : (0 : Int) ≤ ((I - 1 : Nat) : Int) := by omega
            obtain ⟨a', y, ha, hly, p0, -, -, -⟩ := (H.out.below HBW6.out).row (I - 1) hIn
            obtain rfl := Option.some.inj ha
            obtain ⟨p, hp⟩ : ∃ p, p = y.name := ⟨_, rfl⟩
            rw [← hp] at p0
            have hpv : prevOf l I = some p := by unfold prevOf; rw [if_neg hI0, hly, hp]; rfl
            have HPV := hide hpv
            have hpc : ∀ {W : World}, Below w6.heap.size w6 W → W.cell? (a.add ((I - 1) * 3)) = some (.string p) := fun hb => by rw [hb.cell (p := a.add ((I - 1) * 3)) (block_lt_of_cell p0)]; exact p0
            clear hpv hp hly ha
            obtain ⟨lt, hlt3⟩ : ∃ lt, lt = Op.bytesLess p.toList x.name.toList := ⟨_, rfl⟩
            have HPL := hide hlt3.symm
            have hpl : (Op.bytesLess x.name.toList p.toList || x.name.toList == p.toList) = !lt := by rw [leq_less, hlt3]
            clear hlt3
            cases lt with
            | false =>
              have hok : okFile (prevOf l I) x = false := by unfold okFile; rw [← HNMD.out, HPV.out]; simp [HPL.out]
              have HOK := hide hok
              clear hok
              refine wp_region_cls hC (by kernel_rfl) (by kernel_rfl) ?_
              repeat (go_big_quiet_step ((intro hc; first | rfl | (refine (HNM.out _).mono ?_; rintro e w7 ⟨rfl, rfl⟩; rw [← HNMD.out]; exact ⟨rfl, hc⟩) | (obtain ⟨e0, e1, e2⟩ := hxc (hC.below _ hc); have ep := hpc (hC.below _ hc); go_simp; first | done | exact ⟨rfl, rfl⟩ | rfl))))
              refine wpQuiet_nil ?_
              intro w7 hw7
              have HB7 := hide (hC.below _ hw7)
              clear hw7 hC
              go_wp2_with fail
              go_meet
              case rel => exact ⟨by rw [HOK.out]; rfl, HB7.out⟩
            | true =>
              by_cases hs0 : 0 ≤ x.size ∧ x.size ≤ 1920
              · have hin : decide ((0 : Int) ≤ x.size ∧ x.size ≤ 1920) = true := by simpa using hs0
                have HIN := hide hin
                clear hin
                obtain ⟨sz, hsz⟩ := Int.eq_ofNat_of_zero_le hs0.1
                have hsn : sz ≤ 1920 := by omega
                have HSZ := hide hsz
                have hnn : needN x.size.toNat = needN sz := by rw [hsz]; rfl
                have HNN := hide hnn
                have hnd : ∀ W : World, Calls Tryz.prog 13 #[.int .i64 x.size] W fun e w' => e = .returned (.int .i64 (needN sz : Int)) ∧ W = w' := fun W => (refneed_z x.size (by omega) (by omega) W).mono fun e w' ⟨he, hw⟩ => ⟨by rw [he, hsz, needZ_nat], hw⟩
                have HND := hide hnd
                clear hsz hnn hnd
                by_cases hc : x.cells.length = needN sz
                · have s2 : ((x.cells.length : Int) != (needN sz : Int)) = false := by simp [hc]
                  have s2' : (x.cells.length != needN sz) = false := by simp [hc]
                  have HC := hide hc
                  clear hc
                  have hok : okFile (prevOf l I) x = true := by unfold okFile; rw [← HNMD.out, HPV.out]; rw [HNN.out]; simp [HPL.out, HC.out]; omega
                  have HOK := hide hok
                  clear hok
                  refine wp_region_cls hC (by kernel_rfl) (by kernel_rfl) ?_
                  repeat (go_big_quiet_step ((intro hc; first | rfl | (refine (HNM.out _).mono ?_; rintro e w7 ⟨rfl, rfl⟩; rw [← HNMD.out]; exact ⟨rfl, hc⟩) | (refine (in_any x.size 0 1920 _).mono ?_; rintro e w7 ⟨rfl, rfl⟩; rw [HIN.out]; exact ⟨rfl, hc⟩) | (refine (HND.out _).mono ?_; rintro e w7 ⟨rfl, rfl⟩; exact ⟨rfl, hc⟩) | (obtain ⟨e0, e1, e2⟩ := hxc (hC.below _ hc); have ep := hpc (hC.below _ hc); go_simp; first | done | exact ⟨rfl, rfl⟩ | rfl))))
                  refine wpQuiet_nil ?_
                  intro w7 hw7
                  have HB7 := hide (hC.below _ hw7)
                  clear hw7 hC
                  go_wp2_with fail
                  go_meet
                  case rel => exact ⟨by rw [HOK.out]; rfl, HB7.out⟩
                · have s2 : ((x.cells.length : Int) != (needN sz : Int)) = true := by simp; omega
                  have s2' : (x.cells.length != needN sz) = true := by simpa using hc
                  have HC := hide hc
                  clear hc
                  have hok : okFile (prevOf l I) x = false := by unfold okFile; rw [← HNMD.out, HPV.out]; rw [HNN.out]; simp [HC.out]
                  have HOK := hide hok
                  clear hok
                  refine wp_region_cls hC (by kernel_rfl) (by kernel_rfl) ?_
                  repeat (go_big_quiet_step ((intro hc; first | rfl | (refine (HNM.out _).mono ?_; rintro e w7 ⟨rfl, rfl⟩; rw [← HNMD.out]; exact ⟨rfl, hc⟩) | (refine (in_any x.size 0 1920 _).mono ?_; rintro e w7 ⟨rfl, rfl⟩; rw [HIN.out]; exact ⟨rfl, hc⟩) | (refine (HND.out _).mono ?_; rintro e w7 ⟨rfl, rfl⟩; exact ⟨rfl, hc⟩) | (obtain ⟨e0, e1, e2⟩ := hxc (hC.below _ hc); have ep := hpc (hC.below _ hc); go_simp; first | done | exact ⟨rfl, rfl⟩ | rfl))))
                  refine wpQuiet_nil ?_
                  intro w7 hw7
                  have HB7 := hide (hC.below _ hw7)
                  clear hw7 hC
                  go_wp2_with fail
                  go_meet
                  case rel => exact ⟨by rw [HOK.out]; rfl, HB7.out⟩
              · have hin : decide ((0 : Int) ≤ x.size ∧ x.size ≤ 1920) = false := by simpa using hs0
                have HIN := hide hin
                clear hin
                have hok : okFile (prevOf l I) x = false := by unfold okFile; rw [← HNMD.out, HPV.out]; rw [Bool.eq_false_iff]; simp only [ne_eq, Bool.and_eq_true, decide_eq_true_eq, not_and]; omega
                have HOK := hide hok
                clear hok
                refine wp_region_cls hC (by kernel_rfl) (by kernel_rfl) ?_
                repeat (go_big_quiet_step ((intro hc; first | rfl | (refine (HNM.out _).mono ?_; rintro e w7 ⟨rfl, rfl⟩; rw [← HNMD.out]; exact ⟨rfl, hc⟩) | (refine (in_any x.size 0 1920 _).mono ?_; rintro e w7 ⟨rfl, rfl⟩; rw [HIN.out]; exact ⟨rfl, hc⟩) | (obtain ⟨e0, e1, e2⟩ := hxc (hC.below _ hc); have ep := hpc (hC.below _ hc); go_simp; first | done | exact ⟨rfl, rfl⟩ | rfl))))
                refine wpQuiet_nil ?_
                intro w7 hw7
                have HB7 := hide (hC.below _ hw7)
                clear hw7 hC
                go_wp2_with fail
                go_meet
                case rel => exact ⟨by rw [HOK.out]; rfl, HB7.out⟩
      case rest =>
        obtain ⟨rfl, hbc⟩ := hcut
        have HMC : Hid (wc.heap[g]? = some (setO seen)) := hide ((hbc.block g HG6.out).trans HM6.out)
        have HBC := hide (below_step HBW6.out hbc)
        have e2 : wc.cell? ⟨X, 2, none⟩ = some (.slice x.cA x.cells.length x.cc) := by
          have h := HX6.out.below hbc HX6.out.lt
          exact h.cell 2
        clear hbc
        obtain ⟨ok, hok⟩ : ∃ ok, ok = okFile (prevOf l I) x := ⟨_, rfl⟩
        rw [← hok]
        have HOK := hide hok
        clear hok
        cases ok with
        | false =>
          have hr : R = false := by rw [HRES.out, ← HOK.out]; simp
          have HRF := hide hr
          clear hr
          go_wp2_with fail
          go_ret
          exact ⟨by rw [HRF.out]; rfl, HBC.out⟩
        | true =>
          have HRES2 : Hid (R = (decide (n ≤ 8) && (rangeB x.cells && goR (some x.name) (addAll seen x.cells) (K + x.cells.length) (l.drop (I + 1))))) := hide (by rw [HRES.out, ← HOK.out]; rfl)
          have hm24 : x.cells.length ≤ 24 := by
            obtain ⟨-, h1, h2, h3⟩ := okFile_good HOK.out.symm
            rw [h3]
            exact need_big _ (by omega)
          obtain ⟨m, hm⟩ : ∃ m, m = x.cells.length := ⟨_, rfl⟩
          rw [← hm] at e2 hm24
          have HMD := hide hm
          clear hm
          go_upto_region 9 with fail
          clear e2
          go_loopw [4, 54] (fun cv jv W => ∃ (J : Nat) (seen2 : List Int), jv = .int .i64 (J : Int) ∧ cv = .int .i64 ((K + J : Nat) : Int) ∧ J ≤ m ∧ Below w.heap.size w W ∧ W.heap[g]? = some (setO seen2) ∧ seen2 = addAll seen (x.cells.take J) ∧ rangeB (x.cells.take J) = true) (fun _ jv _ => m - (intOf jv).toNat)
          case atStart => exact ⟨0, seen, rfl, rfl, by omega, HBC.out, HMC.out, rfl, rfl⟩
          case round =>
            clear HBC HMC
            obtain ⟨J, seen2, rfl, rfl, hJ, hb2, hm2, hs2, hrg⟩ := hrel
            by_cases hlt2 : J < m
            · have d1 : decide (J < m) = true := by simpa using hlt2
              have hJl : J < x.cells.length := by rw [← HMD.out]; exact hlt2
              obtain ⟨k, hk⟩ : ∃ k, k = x.cells.getD J 0 := ⟨_, rfl⟩
              have hke : x.cells[J] = k := by rw [hk]; simp [List.getD, hJl]
              obtain ⟨ca, hca, hcb, hcc⟩ := (HCS.out.keep (hb2)) (by omega)
              have q5 := hcc J hJl
              rw [← hk] at q5
              have htk : x.cells.take (J + 1) = x.cells.take J ++ [k] := by rw [List.take_succ_eq_append_getElem hJl, hke]
              have hs3 : (if k ∈ seen2 then seen2 else seen2 ++ [k]) = addAll seen (x.cells.take (J + 1)) := by rw [htk, addAll_snoc, ← hs2]
              obtain ⟨S3, hS3⟩ : ∃ S3, S3 = (if k ∈ seen2 then seen2 else seen2 ++ [k]) := ⟨_, rfl⟩
              rw [← hS3] at hs3
              have hin : ∃ q, q = decide (3 ≤ k ∧ k ≤ 23) := ⟨_, rfl⟩
              obtain ⟨q, hq⟩ := hin
              have hrg2 : rangeB (x.cells.take (J + 1)) = q := by
                rw [htk, hq]
                unfold rangeB at hrg ⊢
                rw [List.all_append, hrg]
                simp
              have hmem : k ∈ x.cells := by rw [← hke]; exact List.getElem_mem hJl
              rw [hca]
              have HS3 := hide hs3
              have HQ := hide hq
              have HRG2 := hide hrg2
              have HMEM := hide hmem
              have HB2 := hide hb2
              have HM2 := hide hm2
              have hput := set_any seen2 k g _ hm2
              rw [← hS3] at hput
              clear hb2 hm2 hs2 hrg hca hcc hk hke hcb htk hs3 hq hrg2 hmem hS3
              cases q with
              | false =>
                have hr : R = false := by
                  rw [HRES2.out]
                  have h1 : rangeB x.cells = false := by
                    have h2 := HQ.out
                    unfold rangeB
                    exact List.all_eq_false.2 ⟨k, HMEM.out, by rw [← h2]; simp⟩
                  rw [h1]
                  simp
                have HRF := hide hr
                clear hr hput
                go_wp2_with (go_at_call 24; refine (in_any _ _ _ _).mono ?_; rintro e w7 ⟨rfl, rfl⟩; rw [← HQ.out])
                go_ret
                exact ⟨by rw [HRF.out]; rfl, HB2.out⟩
              | true =>
                have i9 : K + J ≤ 24 * n + 24 := by omega
                go_wp2_with (go_at_call 24; refine (in_any _ _ _ _).mono ?_; rintro e w7 ⟨rfl, rfl⟩; rw [← HQ.out])
                refine ⟨?_, by simp [intOf]; omega⟩
                (repeat apply Exists.intro)
                exact ⟨⟨J + 1, S3, by go_num, by go_num, by omega, Below.setBlk HB2.out HM2.out (by rw [HG.out]; exact Nat.le_refl _), setBlk_heap HM2.out, HS3.out, HRG2.out⟩, rfl⟩
            · have d1 : decide (J < m) = false := by simpa using hlt2
              obtain rfl : J = m := by omega
              have hall : x.cells.take J = x.cells := List.take_of_length_le (by rw [← HMD.out]; exact Nat.le_refl _)
              have hr : R = (decide (n ≤ 8) && goR (prevOf l (I + 1)) seen2 (K + J) (List.drop (I + 1) l)) := by
                rw [hall] at hs2 hrg
                rw [HRES2.out, hrg, prevOf_next HLX.out, hs2, HMD.out]
                simp
              have HR3 := hide hr
              have HB2 := hide hb2
              have HM2 := hide hm2
              clear hr hs2 hrg hb2 hm2 hall
              go_wp2_with fail
              exact ⟨⟨I + 1, K + J, seen2, by go_num, rfl, by omega, by omega, HB2.out, HM2.out, HR3.out⟩, by simp [intOf]; omega⟩
    · have d0 : decide (I < n) = false := by simpa using hlt
      obtain rfl : I = n := by omega
      have hr : R = (decide (I ≤ 8) && decide (seen.length = K)) := by
        rw [hres, List.drop_eq_nil_of_le (by rw [← HN.out]; exact Nat.le_refl _)]
        rfl
      have hm' : wr.heap[g]? = some (.map (setEs 0 seen).toArray seen.length) := hm
      have hse := setEs_length 0 seen
      have hlen : ∀ ty, (Builtin.len_ #[50] ty #[.map (some g)]).run Tryz.prog wr = .ok (.int .i64 (seen.length : Int)) wr := fun ty => by
        rw [run_len_map (P := Tryz.prog) wr 50 ty g _ _ (by kernel_rfl) hm']
        simp [goInt, hse]
      have HB := hide hb
      have HRR := hide hr
      obtain ⟨q1, hq1⟩ : ∃ q, q = decide (seen.length = K) := ⟨_, rfl⟩
      obtain ⟨q2, hq2⟩ : ∃ q, q = decide (I ≤ 8) := ⟨_, rfl⟩
      have f1 : ((seen.length : Int) == (K : Int)) = q1 := by rw [hq1, Bool.eq_iff_iff]; simp; omega
      have f1' : (seen.length == K) = q1 := by rw [hq1, Bool.eq_iff_iff]; simp
      have f2 : decide ((I : Int) ≤ 8) = q2 := by rw [hq2, decide_eq_decide]; omega
      have f2' : decide (I ≤ 8) = q2 := hq2.symm
      rw [← hq1, ← hq2] at HRR
      clear hr hres hm hb hq1 hq2
      cases q1 <;> cases q2
      all_goals
        go_wp2_with fail
        go_ret
        exact ⟨by rw [HRR.out]; rfl, HB.out⟩
end Go.Proofs.YtmligbaalbbgiabGreatDoor

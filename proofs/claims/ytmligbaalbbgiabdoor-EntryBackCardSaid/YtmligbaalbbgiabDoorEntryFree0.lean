/- The law EntryFree's function, walked. Conditions: the files can be read; the variables hold what is laid in them. -/
import Derived.Test.YtmligbaalbbgiabDoorEntryI
namespace Go.Proofs.YtmligbaalbbgiabDoor
open Go.RowKit

theorem free_sorted (l : List FileD) : ∀ i, i + 1 < (freeL l).length → (freeL l).getD i 0 ≤ (freeL l).getD (i + 1) 0 := by
  have hp : (freeL l).Pairwise (· ≤ ·) := List.Pairwise.filter _ (by decide : cellsL.Pairwise (· ≤ ·))
  intro i hi
  have h := List.pairwise_iff_getElem.1 hp i (i + 1) (by omega) hi (by omega)
  simpa [List.getD, hi, Nat.lt_of_succ_lt hi] using h
theorem allCells_take {l : List FileD} {I : Nat} {x : FileD} (h : l[I]? = some x) : (allCells (l.take (I + 1))).length = (allCells (l.take I)).length + x.cells.length := by
  rw [List.take_add_one, h, Option.toList_some]
  simp [allCells]

set_option maxRecDepth 100000 in
set_option maxHeartbeats 8000000 in
theorem entryFree_any {w : World} {A : Option Addr} {n c : Nat} {l : List FileD} (h : FilesAt w A n l) (hL : LaidN w) :
    Calls Tryd.prog 9 #[.slice A n c] w fun e w' => e = .returned (.bool true) ∧ Below w.heap.size w w' := by
  have HH := hide (held_any (c := c) h)
  obtain ⟨q, hq⟩ : ∃ q, q = heldB l := ⟨_, rfl⟩
  rw [← hq] at HH
  have HL := hide hL
  have H := hide h
  clear hq hL h
  cases q with
  | false =>
    go_enter Tryd.func9, Tryd.ntmps9
    go_wp2_with (go_at_call 54; refine HH.out.mono ?_; rintro e w1 ⟨rfl, hb1⟩; have HB1 := hide hb1; clear hb1)
    go_ret
    exact ⟨rfl, HB1.out⟩
  | true =>
    have HE := hide (fun (W : World) (hb : Below w.heap.size w W) => entered_any (HL.out.below hb))
    by_cases hr : rightB l = true
    · have HP := hide (fun (W : World) (hb : Below w.heap.size w W) => print_good (c := c) (H.out.below hb) hr (HL.out.below hb))
      have hfit := print_fits hr
      obtain ⟨P, hP⟩ : ∃ P, P = ofl (printL l) := ⟨_, rfl⟩
      have hPs : P.size ≤ 240 := by rw [hP, ofl_size]; exact hfit
      have p1 : decide ((240 : Int) < (P.size : Int)) = false := by simp; omega
      have p1' : decide (240 < P.size) = false := by simp; omega
      rw [← hP] at HP
      have HF := hide (fun (W : World) (hb : Below w.heap.size w W) => free_any (c := c) (H.out.below hb) hr)
      obtain ⟨h8, hg, -⟩ := right_good hr
      have n8 : n ≤ 8 := by rw [H.out.hn]; exact h8
      have HG := hide hg
      have hcount := free_count hr
      obtain ⟨fl, hfl⟩ : ∃ fl, fl = freeL l := ⟨_, rfl⟩
      rw [← hfl] at HF hcount
      have hfs : ∀ i, i + 1 < fl.length → fl.getD i 0 ≤ fl.getD (i + 1) 0 := by rw [hfl]; exact free_sorted l
      have HFS := hide hfs
      have HFL := hide hfl
      have HCOUNT := hide hcount
      have hfn : fl.length ≤ 21 := by omega
      clear hr hfit hP hPs h8 hg hfs hfl hcount
      go_enter Tryd.func9, Tryd.ntmps9
      go_wp2_with (first
        | (go_at_call 54; refine HH.out.mono ?_; rintro e w1 ⟨rfl, hb1⟩; have HB1 := hide hb1; clear hb1)
        | (go_at_call 55; refine (HE.out _ HB1.out).mono ?_; rintro e w2 ⟨rfl, hb2⟩; have HB2 := hide (below_step HB1.out hb2); clear hb2)
        | (go_at_call 57; refine (HP.out _ HB2.out).mono ?_; rintro e w3 ⟨rfl, hb3⟩; have HB3 := hide (below_step HB2.out hb3); clear hb3)
        | (go_at_call 61; refine (HF.out _ HB3.out).mono ?_; rintro e w4 ⟨F, fc, rfl, hI, hb4⟩; have HB4 := hide (below_step HB3.out hb4); have HI := hide hI; clear hb4 hI))
      go_loopw [6, 7] (fun cv iv wr => ∃ I : Nat, iv = .int .i64 (I : Int) ∧ I ≤ n ∧ cv = .int .i64 ((allCells (l.take I)).length : Int) ∧ Below w4.heap.size w4 wr) (fun _ iv _ => n - (intOf iv).toNat)
      case atStart => exact ⟨0, rfl, by omega, rfl, Below.refl _ _⟩
      case round =>
        obtain ⟨I, rfl, hI, rfl, hb⟩ := hrel
        by_cases hlt : I < n
        · have d0 : decide (I < n) = true := by simpa using hlt
          obtain ⟨a, x, rfl, hlx, q0, q1, q2, hcx⟩ := (H.out.below (below_step HB4.out hb)).row I hlt
          have hgx := HG.out x (List.mem_of_getElem? hlx)
          have hm24 : x.cells.length ≤ 24 := by
            rw [hgx.len]
            have := hgx.s1
            exact need_big _ (by omega)
          obtain ⟨C, hC⟩ : ∃ C, C = (allCells (l.take I)).length := ⟨_, rfl⟩
          have hC2 : (allCells (l.take (I + 1))).length = C + x.cells.length := by rw [allCells_take hlx, hC]
          have hCb : C ≤ 21 := by
            have h1 := HCOUNT.out
            have h2 : (allCells (l.take I)).length ≤ (allCells l).length := by
              have e : allCells l = allCells (l.take I) ++ allCells (l.drop I) := by
                unfold allCells
                rw [← List.flatMap_append, List.take_append_drop]
              rw [e, List.length_append]
              omega
            omega
          rw [← hC]
          obtain ⟨m, hm⟩ : ∃ m, m = x.cells.length := ⟨_, rfl⟩
          rw [← hm] at q2 hC2 hm24
          have hfree : ∀ k ∈ x.cells, decide (k ∈ fl) = false := fun k hk => by
            rw [HFL.out]
            simpa using free_not (List.mem_of_getElem? hlx) hk
          have HFREE := hide hfree
          have HM := hide hm
          have HC2 := hide hC2
          have HB := hide hb
          have HCX := hide hcx
          have HQ2 := hide q2
          have hblk : a.block < w4.heap.size := by
            obtain ⟨a', _, ha, _, q, _⟩ := (H.out.below HB4.out).row I hlt
            obtain rfl := Option.some.inj ha
            have h := block_lt_of_cell q
            rwa [Go.ChangeShapes.block_add] at h
          clear hb hlx hcx hgx hC hC2 hm hfree
          go_upto_region 17 with fail
          clear q0 q1 q2
          go_loopw [8] (fun jv W => ∃ J : Nat, jv = .int .i64 (J : Int) ∧ J ≤ m ∧ Below wr.heap.size wr W) (fun jv _ => m - (intOf jv).toNat)
          case atStart => exact ⟨0, rfl, by omega, Below.refl _ _⟩
          case round =>
            obtain ⟨J, rfl, hJ, hb2⟩ := hrel
            have q2 := hb2.cell (p := ⟨(a.add (I * 3)).block, (a.add (I * 3)).off + 2, none⟩) (block_lt_of_cell HQ2.out)
            rw [HQ2.out] at q2
            by_cases hlt2 : J < m
            · have d1 : decide (J < m) = true := by simpa using hlt2
              have hJl : J < x.cells.length := by rw [← HM.out]; exact hlt2
              obtain ⟨ca, hca, -, hcc⟩ := (HCX.out.keep hb2) (by omega)
              rw [hca] at q2
              have q5 := hcc J hJl
              obtain ⟨k, hk⟩ : ∃ k, k = x.cells.getD J 0 := ⟨_, rfl⟩
              have hkm : k ∈ x.cells := by rw [hk]; simp [List.getD, hJl]
              rw [← hk] at q5
              have HCI := hide (contains_int (c := fc) (HI.out.keep (HB.out.trans (hb2.mono HB.out.size))) rfl (by omega) k)
              rw [HFREE.out k hkm] at HCI
              have HB2 := hide hb2
              clear hb2 hcc hca hk hkm
              go_wp2_with (go_at_call 62; refine HCI.out.mono ?_; rintro e w5 ⟨rfl, rfl⟩)
              exact ⟨⟨J + 1, by go_num, by omega, HB2.out⟩, by simp [intOf]; omega⟩
            · have d1 : decide (J < m) = false := by simpa using hlt2
              have HB2 := hide hb2
              clear hb2
              go_wp2_with fail
              exact ⟨⟨I + 1, by go_num, by omega, by rw [HC2.out]; go_num, HB.out.trans (HB2.out.mono HB.out.size)⟩, by simp [intOf]; omega⟩
        · have d0 : decide (I < n) = false := by simpa using hlt
          obtain rfl : I = n := by omega
          have hall : (allCells (l.take I)).length + fl.length = 21 := by
            rw [List.take_of_length_le (by rw [← H.out.hn]; exact Nat.le_refl _)]
            exact HCOUNT.out
          obtain ⟨C, hC⟩ : ∃ C, C = (allCells (l.take I)).length := ⟨_, rfl⟩
          rw [← hC] at hall ⊢
          have d2 : (((C : Int) + (fl.length : Int)) == 21) = true := by simp; omega
          have d2' : ((C + fl.length) == 21) = true := by simp; omega
          have HS := hide (isSorted_yes (c := fc) (HI.out.keep hb) rfl (by omega) HFS.out)
          have HB := hide (below_step HB4.out hb)
          clear hC hb
          go_wp2_with (go_at_call 63; refine HS.out.mono ?_; rintro e w5 ⟨rfl, hb5⟩; have HB5 := hide (below_step HB.out hb5); clear hb5)
          go_ret
          exact ⟨rfl, HB5.out⟩
    · have hr' : rightB l = false := by simpa using hr
      have HP := hide (fun (W : World) (hb : Below w.heap.size w W) => print_bad (c := c) (H.out.below hb) hr')
      clear hr hr'
      go_enter Tryd.func9, Tryd.ntmps9
      go_wp2_with (first
        | (go_at_call 54; refine HH.out.mono ?_; rintro e w1 ⟨rfl, hb1⟩; have HB1 := hide hb1; clear hb1)
        | (go_at_call 55; refine (HE.out _ HB1.out).mono ?_; rintro e w2 ⟨rfl, hb2⟩; have HB2 := hide (below_step HB1.out hb2); clear hb2)
        | (go_at_call 57; refine (HP.out _ HB2.out).mono ?_; rintro e w3 ⟨rfl, hb3⟩; have HB3 := hide (below_step HB2.out hb3); clear hb3))
      go_ret
      exact ⟨rfl, HB3.out⟩
end Go.Proofs.YtmligbaalbbgiabDoor

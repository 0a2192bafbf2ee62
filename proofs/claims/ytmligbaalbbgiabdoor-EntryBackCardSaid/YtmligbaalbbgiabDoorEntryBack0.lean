/- The law EntryBack's function, walked. Conditions: the files can be read; the variables hold what is laid in them. -/
import Derived.Test.YtmligbaalbbgiabDoorEntryFree0
namespace Go.Proofs.YtmligbaalbbgiabDoor
open Go.RowKit

def pickZ (x : Int) (N : Nat) : Nat := ((x % 18446744073709551616) % (N : Int)).toNat
theorem pickZ_lt (x : Int) (N : Nat) (h : 0 < N) : pickZ x N < N := by
  unfold pickZ
  have h1 := Int.emod_nonneg (x % 18446744073709551616) (show (N : Int) ≠ 0 by omega)
  have h2 := Int.emod_lt_of_pos (x % 18446744073709551616) (show (0 : Int) < (N : Int) by omega)
  omega
theorem pick_at (x : Int) (N : Nat) (h : 0 < N) (hN : N ≤ 65536) (w : World) : Calls Tryd.prog 14 #[.int .i64 x, .int .i64 (N : Int)] w fun e w' => e = .returned (.int .i64 (pickZ x N : Int)) ∧ w = w' := by
  have h0 : IntKind.u64.wrap x = x % 18446744073709551616 := by simp [IntKind.wrap, IntKind.bits, IntKind.signed]
  have h3 : IntKind.u64.wrap (N : Int) = (N : Int) := by simp only [IntKind.wrap, IntKind.bits, IntKind.signed]; simp; omega
  have h1 : (IntKind.u64.wrap x).tmod (N : Int) = (x % 18446744073709551616) % (N : Int) := by
    rw [h0, Int.tmod_eq_emod_of_nonneg (by omega)]
  have hlt := pickZ_lt x N h
  have h2 : wrap64 ((IntKind.u64.wrap x).tmod (N : Int)) = (pickZ x N : Int) := by
    rw [h1]
    have h4 := Int.emod_nonneg (x % 18446744073709551616) (show (N : Int) ≠ 0 by omega)
    unfold pickZ at hlt ⊢
    simp only [wrap64]; omega
  have hz : ((N : Int) == 0) = false := by simp; omega
  have hz' : ¬ (N : Int) = 0 := by omega
  have H2 := hide h2
  have H3 := hide h3
  clear h0 h1 h2 hlt h3
  go_enter Tryd.func14, Tryd.ntmps14
  go_wp2_with fail
  go_ret
  refine ⟨?_, rfl⟩
  rw [← H2.out]
  rfl
theorem FilesAt.take {w : World} {A : Option Addr} {n : Nat} {l : List FileD} (h : FilesAt w A n l) (k : Nat) (hk : k ≤ n) : FilesAt w A k (l.take k) :=
  ⟨by rw [List.length_take, ← h.hn]; omega, fun x hx => h.wf x (List.mem_of_mem_take hx), fun i hi => by
    obtain ⟨a, x, h1, h2, h3⟩ := h.at_ i (by omega)
    exact ⟨a, x, h1, by rw [List.getElem?_take, if_pos hi]; exact h2, h3⟩⟩
theorem parse_yes {s : ByteArray} (hs : s.size ≤ 65536) {L : List FileD} (hp : parseP (bl s) = some L) {W : World} (hL : LaidN W) : Calls Tryd.prog 56 #[.string s] W fun e w' => ∃ l A k c, l.map FileD.bare = L ∧ FilesAt w' A k l ∧ e = .returned (.tuple #[.slice A k c, .nilIface]) ∧ Below W.heap.size W w' := by
  refine (parse_any s hs hL).mono ?_
  rintro e w' ⟨hb, ⟨h, -⟩ | ⟨l, A, k, c, h, hF, rfl⟩⟩
  · rw [hp] at h; cases h
  · rw [hp] at h
    injection h with h
    exact ⟨l, A, k, c, h.symm, hF, rfl, hb⟩
theorem parse_no {s : ByteArray} (hs : s.size ≤ 65536) (hp : parseP (bl s) = none) {W : World} (hL : LaidN W) : Calls Tryd.prog 56 #[.string s] W fun e w' => e = .returned (.tuple #[.slice none 0 0, .iface 35 (.int .i64 3)]) ∧ Below W.heap.size W w' := by
  refine (parse_any s hs hL).mono ?_
  rintro e w' ⟨hb, ⟨-, rfl⟩ | ⟨l, A, k, c, h, -⟩⟩
  · exact ⟨rfl, hb⟩
  · rw [hp] at h; cases h
theorem right_small {l : List FileD} (h : rightB l = true) : l.length ≤ 8 ∧ ∀ x ∈ l, x.cells.length ≤ 65536 := by
  obtain ⟨h8, hg, -⟩ := right_good h
  refine ⟨h8, fun x hx => ?_⟩
  rw [(hg x hx).len]
  have := need_big x.size.toNat (by have := (hg x hx).s1; omega)
  omega
/-- What is the same may be as well. -/
theorem right_same {l l' : List FileD} (h : l.map FileD.bare = l'.map FileD.bare) : rightB l = rightB l' := by rw [← right_bare l, h, right_bare]
theorem print_same {l l' : List FileD} (h : l.map FileD.bare = l'.map FileD.bare) : printL l = printL l' := by rw [← printL_bare l, h, printL_bare]

set_option maxRecDepth 100000 in
set_option maxHeartbeats 16000000 in
theorem entryBack_any {w : World} {A : Option Addr} {n c : Nat} {l : List FileD} (h : FilesAt w A n l) (hcap : n ≤ c) (hL : LaidN w) (s : ByteArray) (cut : Int) :
    Calls Tryd.prog 8 #[.slice A n c, .string s, .int .i64 cut] w fun e w' => e = .returned (.bool true) ∧ Below w.heap.size w w' := by
  have HH := hide (held_any (c := c) h)
  obtain ⟨q, hq⟩ : ∃ q, q = heldB l := ⟨_, rfl⟩
  rw [← hq] at HH
  have HL := hide hL
  have H := hide h
  clear hq hL h
  cases q with
  | false =>
    go_enter Tryd.func8, Tryd.ntmps8
    go_wp2_with (go_at_call 54; refine HH.out.mono ?_; rintro e w1 ⟨rfl, hb1⟩; have HB1 := hide hb1; clear hb1)
    go_ret
    exact ⟨rfl, HB1.out⟩
  | true =>
    by_cases hs4 : 400 < s.size
    · have s1 : decide ((400 : Int) < (s.size : Int)) = true := by simp; omega
      have s1' : decide (400 < s.size) = true := by simp; omega
      clear hs4
      go_enter Tryd.func8, Tryd.ntmps8
      go_wp2_with (go_at_call 54; refine HH.out.mono ?_; rintro e w1 ⟨rfl, hb1⟩; have HB1 := hide hb1; clear hb1)
      go_ret
      exact ⟨rfl, HB1.out⟩
    · have s1 : decide ((400 : Int) < (s.size : Int)) = false := by simp; omega
      have s1' : decide (400 < s.size) = false := by simp; omega
      have hs65 : s.size ≤ 65536 := by omega
      clear hs4
      have HE := hide (fun (W : World) (hb : Below w.heap.size w W) => entered_any (HL.out.below hb))
      cases hps : parseP (bl s) with
      | none =>
        have HPS := hide (fun (W : World) (hb : Below w.heap.size w W) => parse_no hs65 hps (HL.out.below hb))
        clear hps
        by_cases hr : rightB l = true
        · have hfit := print_fits hr
          have hpp := parse_print hr
          obtain ⟨P, hP⟩ : ∃ P, P = ofl (printL l) := ⟨_, rfl⟩
          have hbP : bl P = printL l := by rw [hP, bl_ofl]
          have hPs : P.size ≤ 240 := by rw [hP, ofl_size]; exact hfit
          have HP := hide (fun (W : World) (hb : Below w.heap.size w W) => print_good (c := c) (H.out.below hb) hr (HL.out.below hb))
          rw [← hP] at HP
          have hpp2 : parseP (bl P) = some (l.map FileD.bare) := by rw [hbP]; exact hpp
          have HPP := hide (fun (W : World) (hb : Below w.heap.size w W) => parse_yes (s := P) (by omega) hpp2 (HL.out.below hb))
          have hsm := right_small hr
          obtain ⟨Z, hZ⟩ : ∃ Z, Z = pickZ cut (P.size + 1) := ⟨_, rfl⟩
          have hZP : Z < P.size + 1 := by rw [hZ]; exact pickZ_lt _ _ (by omega)
          have HPK := hide (fun (W : World) => pick_at cut (P.size + 1) (by omega) (by omega) W)
          rw [← hZ] at HPK
          have k1 : wrap64 ((P.size : Int) + 1) = ((P.size + 1 : Nat) : Int) := by simp only [wrap64]; omega
          have k2 : (Z : Int) ≤ (P.size : Int) := by omega
          have k2' : Z ≤ P.size := by omega
          have hgl := (right_good hr).2.1
          have HR := hide hr
          have HSM := hide hsm
          have HBP := hide hbP
          have hXs : (P.extract 0 Z).size ≤ 65536 := by rw [ByteArray.size_extract]; omega
          have hbX : bl (P.extract 0 Z) = (printL l).take Z := by rw [bl_extract, hbP]; simp
          have hZl : Z ≤ (printL l).length := by rw [← hbP, bl_length]; omega
          clear hr hfit hpp hP hpp2 hsm hZ hbP
          by_cases hc2 : Z = 0 ∨ (printL l)[Z - 1]? = some 10
          · have hend := hc2
            have hend2 := hc2
            clear hc2
            obtain ⟨K, hK⟩ : ∃ K, K = ((printL l).take Z).count 10 := ⟨_, rfl⟩
            have htk : (printL l).take Z = printL (l.take K) := by rw [hK]; exact print_take l hgl Z hZl hend
            have hpx : parseP (bl (P.extract 0 Z)) = some ((l.take K).map FileD.bare) := by rw [hbX, htk]; exact parse_print (right_take HR.out K)
            have HPX := hide (fun (W : World) (hb : Below w.heap.size w W) => parse_yes hXs hpx (HL.out.below hb))
            have hKn : K ≤ l.length := by
              have h1 := congrArg List.length (cut_print (l.take K) (fun x hx => hgl x (List.mem_of_mem_take hx)))
              rw [cutL_length, ← htk, ← hK, List.length_append, List.length_map, List.length_take] at h1
              simp at h1
              omega
            have HCN := hide (fun (W : World) => (Go.Proofs.Tryd.strings_Count_one (P.extract 0 Z) 10 W).mono (fun e w' ⟨he, hw⟩ => (⟨he, hw.symm⟩ : e = _ ∧ W = w')))
            have hcb : Lib.countByte (P.extract 0 Z).data.toList 10 = K := by
              show Lib.countByte (bl (P.extract 0 Z)) 10 = K
              rw [hbX, hK]
              rfl
            rw [hcb] at HCN
            have hKn2 : K ≤ n := by rw [H.out.hn]; exact hKn
            have hKn3 : (K : Int) ≤ (n : Int) := by omega
            have hKc : K ≤ c := by omega
            clear hcb hpx htk hK hbX hZl hend
            rcases Nat.eq_zero_or_pos Z with hz | hz
            · have y1 : decide ((0 : Int) < (Z : Int)) = false := by simp; omega
              have y1' : decide (0 < Z) = false := by simp; omega
              clear hz hend2
              go_enter Tryd.func8, Tryd.ntmps8
              go_wp2_with (first
                | (go_at_call 54; refine HH.out.mono ?_; rintro e w1 ⟨rfl, hb1⟩; have HB := hide hb1; clear hb1)
                | (go_at_call 55; refine (HE.out _ HB.out).mono ?_; rintro e w2 ⟨rfl, hb2⟩; replace HB := hide (below_step HB.out hb2); clear hb2)
                | (go_at_call 56; with_reducible refine (HPS.out _ HB.out).mono ?_; clear HPS; rintro e w3 ⟨rfl, hb3⟩; replace HB := hide (below_step HB.out hb3); clear hb3)
                | (go_at_call 57; with_reducible refine (HP.out _ HB.out).mono ?_; clear HP; rintro e w5 ⟨rfl, hb5⟩; replace HB := hide (below_step HB.out hb5); clear hb5)
                | (go_at_call 56; with_reducible refine (HPP.out _ HB.out).mono ?_; clear HPP; rintro e w6 ⟨l2, A2, n2, c2, hm2, hF2, rfl, hb6⟩; replace HB := hide (below_step HB.out hb6); have HSF := hide (sameFiles_yes (c1 := c2) (c2 := c) hF2 (H.out.below HB.out) hm2 (right_small ((right_same hm2).trans HR.out)).2 (by have h1 := (right_small ((right_same hm2).trans HR.out)).1; have h2 := hF2.hn; omega)); clear hb6 hm2 hF2)
                | (go_at_call 59; with_reducible refine HSF.out.mono ?_; clear HSF; rintro e w7 ⟨rfl, hb7⟩; replace HB := hide (below_step HB.out hb7); clear hb7)
                | (go_at_call 14; refine (HPK.out _).mono ?_; rintro e w8 ⟨rfl, rfl⟩)
                | (go_at_call 56; with_reducible refine (HPX.out _ HB.out).mono ?_; clear HPX; rintro e w9 ⟨l3, A3, n3, c3, hm3, hF3, rfl, hb9⟩; replace HB := hide (below_step HB.out hb9); have HSG := hide (fun cc => sameFiles_yes (c1 := c3) (c2 := cc) hF3 ((H.out.below HB.out).take K hKn2) hm3 (right_small ((right_same hm3).trans (right_take HR.out K))).2 (by have h1 := (right_small ((right_same hm3).trans (right_take HR.out K))).1; have h2 := hF3.hn; omega)); clear hb9 hm3 hF3)
                | (go_at_call 60; refine (HCN.out _).mono ?_; rintro e w10 ⟨rfl, rfl⟩)
                | (go_at_call 59; with_reducible refine (HSG.out _).mono ?_; clear HSG; rintro e w11 ⟨rfl, hb11⟩; replace HB := hide (below_step HB.out hb11); clear hb11))
              go_ret
              exact ⟨rfl, HB.out⟩
            · have hc : P[Z - 1] = 10 := by
                rcases hend2 with e | e
                · omega
                · rw [← HBP.out] at e
                  have h1 : (bl P)[Z - 1]? = some P[Z - 1] := by
                    have hlt : Z - 1 < (bl P).length := by rw [bl_length]; omega
                    rw [List.getElem?_eq_getElem hlt]
                    rfl
                  rw [h1] at e
                  exact Option.some.inj e
              obtain ⟨Y, rfl⟩ : ∃ Y, Z = Y + 1 := ⟨Z - 1, by omega⟩
              have y1 : decide ((0 : Int) < ((Y + 1 : Nat) : Int)) = true := decide_eq_true (by omega)
              have y2 : wrap64 (((Y + 1 : Nat) : Int) - 1) = (Y : Int) := by simp only [wrap64]; omega
              have y3 : (Y : Int) < (P.size : Int) := by omega
              have hYP : Y < P.size := by omega
              have hc' : P[Y] = 10 := hc
              have y4 : (((P[Y].toNat : Nat) : Int) != 10) = false := by rw [hc']; rfl
              have y4' : (P[Y].toNat != 10) = false := by rw [hc']; rfl
              clear hz hc hc' hend2
              go_enter Tryd.func8, Tryd.ntmps8
              go_wp2_with (first
                | (go_at_call 54; refine HH.out.mono ?_; rintro e w1 ⟨rfl, hb1⟩; have HB := hide hb1; clear hb1)
                | (go_at_call 55; refine (HE.out _ HB.out).mono ?_; rintro e w2 ⟨rfl, hb2⟩; replace HB := hide (below_step HB.out hb2); clear hb2)
                | (go_at_call 56; with_reducible refine (HPS.out _ HB.out).mono ?_; clear HPS; rintro e w3 ⟨rfl, hb3⟩; replace HB := hide (below_step HB.out hb3); clear hb3)
                | (go_at_call 57; with_reducible refine (HP.out _ HB.out).mono ?_; clear HP; rintro e w5 ⟨rfl, hb5⟩; replace HB := hide (below_step HB.out hb5); clear hb5)
                | (go_at_call 56; with_reducible refine (HPP.out _ HB.out).mono ?_; clear HPP; rintro e w6 ⟨l2, A2, n2, c2, hm2, hF2, rfl, hb6⟩; replace HB := hide (below_step HB.out hb6); have HSF := hide (sameFiles_yes (c1 := c2) (c2 := c) hF2 (H.out.below HB.out) hm2 (right_small ((right_same hm2).trans HR.out)).2 (by have h1 := (right_small ((right_same hm2).trans HR.out)).1; have h2 := hF2.hn; omega)); clear hb6 hm2 hF2)
                | (go_at_call 59; with_reducible refine HSF.out.mono ?_; clear HSF; rintro e w7 ⟨rfl, hb7⟩; replace HB := hide (below_step HB.out hb7); clear hb7)
                | (go_at_call 14; refine (HPK.out _).mono ?_; rintro e w8 ⟨rfl, rfl⟩)
                | (go_at_call 56; with_reducible refine (HPX.out _ HB.out).mono ?_; clear HPX; rintro e w9 ⟨l3, A3, n3, c3, hm3, hF3, rfl, hb9⟩; replace HB := hide (below_step HB.out hb9); have HSG := hide (fun cc => sameFiles_yes (c1 := c3) (c2 := cc) hF3 ((H.out.below HB.out).take K hKn2) hm3 (right_small ((right_same hm3).trans (right_take HR.out K))).2 (by have h1 := (right_small ((right_same hm3).trans (right_take HR.out K))).1; have h2 := hF3.hn; omega)); clear hb9 hm3 hF3)
                | (go_at_call 60; refine (HCN.out _).mono ?_; rintro e w10 ⟨rfl, rfl⟩)
                | (go_at_call 59; with_reducible refine (HSG.out _).mono ?_; clear HSG; rintro e w11 ⟨rfl, hb11⟩; replace HB := hide (below_step HB.out hb11); clear hb11))
              go_ret
              exact ⟨rfl, HB.out⟩
          · have hz : 0 < Z := Nat.pos_of_ne_zero fun e => hc2 (.inl e)
            obtain ⟨Y, rfl⟩ : ∃ Y, Z = Y + 1 := ⟨Z - 1, by omega⟩
            have hYP : Y < P.size := by omega
            have hc : ¬ P[Y] = 10 := fun e => hc2 (.inr (by
              have h1 : (bl P)[Y]? = some P[Y] := by
                have hlt : Y < (bl P).length := by rw [bl_length]; omega
                rw [List.getElem?_eq_getElem hlt]
                rfl
              show (printL l)[Y]? = some 10
              rw [← HBP.out, h1, e]))
            clear hz hc2
            have hbt : bl (P.extract 0 (Y + 1)) = (printL l).take Y ++ [P[Y]] := by
              rw [hbX, List.take_succ_eq_append_getElem (by omega)]
              congr 1
              simp only [← HBP.out]
              rfl
            have hpn : parseP (bl (P.extract 0 (Y + 1))) = none := by rw [hbt]; exact parse_cut (fun e => hc e)
            have HPX := hide (fun (W : World) (hb : Below w.heap.size w W) => parse_no hXs hpn (HL.out.below hb))
            have y1 : decide ((0 : Int) < ((Y + 1 : Nat) : Int)) = true := decide_eq_true (by omega)
            have y2 : wrap64 (((Y + 1 : Nat) : Int) - 1) = (Y : Int) := by simp only [wrap64]; omega
            have y3 : (Y : Int) < (P.size : Int) := by omega
            have y4 : (((P[Y].toNat : Nat) : Int) != 10) = true := by
              have : P[Y].toNat ≠ 10 := fun e => hc (UInt8.toNat_inj.1 e)
              simp; omega
            have y4' : (P[Y].toNat != 10) = true := by
              have : P[Y].toNat ≠ 10 := fun e => hc (UInt8.toNat_inj.1 e)
              simpa using this
            clear hc hpn hbt hbX hZl
            go_enter Tryd.func8, Tryd.ntmps8
            go_wp2_with (first
              | (go_at_call 54; refine HH.out.mono ?_; rintro e w1 ⟨rfl, hb1⟩; have HB := hide hb1; clear hb1)
              | (go_at_call 55; refine (HE.out _ HB.out).mono ?_; rintro e w2 ⟨rfl, hb2⟩; replace HB := hide (below_step HB.out hb2); clear hb2)
              | (go_at_call 56; with_reducible refine (HPS.out _ HB.out).mono ?_; clear HPS; rintro e w3 ⟨rfl, hb3⟩; replace HB := hide (below_step HB.out hb3); clear hb3)
              | (go_at_call 57; with_reducible refine (HP.out _ HB.out).mono ?_; clear HP; rintro e w5 ⟨rfl, hb5⟩; replace HB := hide (below_step HB.out hb5); clear hb5)
              | (go_at_call 56; with_reducible refine (HPP.out _ HB.out).mono ?_; clear HPP; rintro e w6 ⟨l2, A2, n2, c2, hm2, hF2, rfl, hb6⟩; replace HB := hide (below_step HB.out hb6); have HSF := hide (sameFiles_yes (c1 := c2) (c2 := c) hF2 (H.out.below HB.out) hm2 (right_small ((right_same hm2).trans HR.out)).2 (by have h1 := (right_small ((right_same hm2).trans HR.out)).1; have h2 := hF2.hn; omega)); clear hb6 hm2 hF2)
              | (go_at_call 59; with_reducible refine HSF.out.mono ?_; clear HSF; rintro e w7 ⟨rfl, hb7⟩; replace HB := hide (below_step HB.out hb7); clear hb7)
              | (go_at_call 14; refine (HPK.out _).mono ?_; rintro e w8 ⟨rfl, rfl⟩)
              | (go_at_call 56; with_reducible refine (HPX.out _ HB.out).mono ?_; clear HPX; rintro e w9 ⟨rfl, hb9⟩; replace HB := hide (below_step HB.out hb9); clear hb9))
            go_ret
            exact ⟨rfl, HB.out⟩
        · have hr' : rightB l = false := by simpa using hr
          have HP := hide (fun (W : World) (hb : Below w.heap.size w W) => print_bad (c := c) (H.out.below hb) hr')
          have HR := hide (fun (W : World) (hb : Below w.heap.size w W) => right_any (c := c) (H.out.below hb))
          rw [hr'] at HR
          clear hr hr'
          go_enter Tryd.func8, Tryd.ntmps8
          go_wp2_with (first
            | (go_at_call 54; refine HH.out.mono ?_; rintro e w1 ⟨rfl, hb1⟩; have HB := hide hb1; clear hb1)
            | (go_at_call 55; refine (HE.out _ HB.out).mono ?_; rintro e w2 ⟨rfl, hb2⟩; replace HB := hide (below_step HB.out hb2); clear hb2)
            | (go_at_call 56; with_reducible refine (HPS.out _ HB.out).mono ?_; clear HPS; rintro e w3 ⟨rfl, hb3⟩; replace HB := hide (below_step HB.out hb3); clear hb3)
            | (go_at_call 57; with_reducible refine (HP.out _ HB.out).mono ?_; clear HP; rintro e w5 ⟨rfl, hb5⟩; replace HB := hide (below_step HB.out hb5); clear hb5)
            | (go_at_call 58; refine (HR.out _ HB.out).mono ?_; rintro e w6 ⟨rfl, hb6⟩; replace HB := hide (below_step HB.out hb6); clear hb6))
          go_ret
          exact ⟨rfl, HB.out⟩
      | some L =>
        have HPS := hide (fun (W : World) (hb : Below w.heap.size w W) => parse_yes hs65 hps (HL.out.below hb))
        have hps2 := parse_some hps
        have HPS2 := hide hps2
        have z0 := toL_eq s
        clear hps hps2
        by_cases hr : rightB l = true
        · have hfit := print_fits hr
          have hpp := parse_print hr
          obtain ⟨P, hP⟩ : ∃ P, P = ofl (printL l) := ⟨_, rfl⟩
          have hbP : bl P = printL l := by rw [hP, bl_ofl]
          have hPs : P.size ≤ 240 := by rw [hP, ofl_size]; exact hfit
          have HP := hide (fun (W : World) (hb : Below w.heap.size w W) => print_good (c := c) (H.out.below hb) hr (HL.out.below hb))
          rw [← hP] at HP
          have hpp2 : parseP (bl P) = some (l.map FileD.bare) := by rw [hbP]; exact hpp
          have HPP := hide (fun (W : World) (hb : Below w.heap.size w W) => parse_yes (s := P) (by omega) hpp2 (HL.out.below hb))
          have hsm := right_small hr
          obtain ⟨Z, hZ⟩ : ∃ Z, Z = pickZ cut (P.size + 1) := ⟨_, rfl⟩
          have hZP : Z < P.size + 1 := by rw [hZ]; exact pickZ_lt _ _ (by omega)
          have HPK := hide (fun (W : World) => pick_at cut (P.size + 1) (by omega) (by omega) W)
          rw [← hZ] at HPK
          have k1 : wrap64 ((P.size : Int) + 1) = ((P.size + 1 : Nat) : Int) := by simp only [wrap64]; omega
          have k2 : (Z : Int) ≤ (P.size : Int) := by omega
          have k2' : Z ≤ P.size := by omega
          have hgl := (right_good hr).2.1
          have HR := hide hr
          have HSM := hide hsm
          have HBP := hide hbP
          have hXs : (P.extract 0 Z).size ≤ 65536 := by rw [ByteArray.size_extract]; omega
          have hbX : bl (P.extract 0 Z) = (printL l).take Z := by rw [bl_extract, hbP]; simp
          have hZl : Z ≤ (printL l).length := by rw [← hbP, bl_length]; omega
          clear hr hfit hpp hP hpp2 hsm hZ hbP
          by_cases hc2 : Z = 0 ∨ (printL l)[Z - 1]? = some 10
          · have hend := hc2
            have hend2 := hc2
            clear hc2
            obtain ⟨K, hK⟩ : ∃ K, K = ((printL l).take Z).count 10 := ⟨_, rfl⟩
            have htk : (printL l).take Z = printL (l.take K) := by rw [hK]; exact print_take l hgl Z hZl hend
            have hpx : parseP (bl (P.extract 0 Z)) = some ((l.take K).map FileD.bare) := by rw [hbX, htk]; exact parse_print (right_take HR.out K)
            have HPX := hide (fun (W : World) (hb : Below w.heap.size w W) => parse_yes hXs hpx (HL.out.below hb))
            have hKn : K ≤ l.length := by
              have h1 := congrArg List.length (cut_print (l.take K) (fun x hx => hgl x (List.mem_of_mem_take hx)))
              rw [cutL_length, ← htk, ← hK, List.length_append, List.length_map, List.length_take] at h1
              simp at h1
              omega
            have HCN := hide (fun (W : World) => (Go.Proofs.Tryd.strings_Count_one (P.extract 0 Z) 10 W).mono (fun e w' ⟨he, hw⟩ => (⟨he, hw.symm⟩ : e = _ ∧ W = w')))
            have hcb : Lib.countByte (P.extract 0 Z).data.toList 10 = K := by
              show Lib.countByte (bl (P.extract 0 Z)) 10 = K
              rw [hbX, hK]
              rfl
            rw [hcb] at HCN
            have hKn2 : K ≤ n := by rw [H.out.hn]; exact hKn
            have hKn3 : (K : Int) ≤ (n : Int) := by omega
            have hKc : K ≤ c := by omega
            clear hcb hpx htk hK hbX hZl hend
            rcases Nat.eq_zero_or_pos Z with hz | hz
            · have y1 : decide ((0 : Int) < (Z : Int)) = false := by simp; omega
              have y1' : decide (0 < Z) = false := by simp; omega
              clear hz hend2
              go_enter Tryd.func8, Tryd.ntmps8
              go_wp2_with (first
                | (go_at_call 54; refine HH.out.mono ?_; rintro e w1 ⟨rfl, hb1⟩; have HB := hide hb1; clear hb1)
                | (go_at_call 55; refine (HE.out _ HB.out).mono ?_; rintro e w2 ⟨rfl, hb2⟩; replace HB := hide (below_step HB.out hb2); clear hb2)
                | (go_at_call 56; with_reducible refine (HPS.out _ HB.out).mono ?_; clear HPS; rintro e w3 ⟨l1, A1, k1, c1, hm1, hF1, rfl, hb3⟩; replace HB := hide (below_step HB.out hb3); have HPM := hide (print_good (c := c1) hF1 (by rw [← right_bare, hm1]; exact HPS2.out.1) (HL.out.below HB.out)); rw [← printL_bare l1, hm1, HPS2.out.2, ofl_bl] at HPM; clear hb3 hm1 hF1)
                | (go_at_call 57; with_reducible refine HPM.out.mono ?_; clear HPM; rintro e w4 ⟨rfl, hb4⟩; replace HB := hide (below_step HB.out hb4); clear hb4)
                | (go_at_call 57; with_reducible refine (HP.out _ HB.out).mono ?_; clear HP; rintro e w5 ⟨rfl, hb5⟩; replace HB := hide (below_step HB.out hb5); clear hb5)
                | (go_at_call 56; with_reducible refine (HPP.out _ HB.out).mono ?_; clear HPP; rintro e w6 ⟨l2, A2, n2, c2, hm2, hF2, rfl, hb6⟩; replace HB := hide (below_step HB.out hb6); have HSF := hide (sameFiles_yes (c1 := c2) (c2 := c) hF2 (H.out.below HB.out) hm2 (right_small ((right_same hm2).trans HR.out)).2 (by have h1 := (right_small ((right_same hm2).trans HR.out)).1; have h2 := hF2.hn; omega)); clear hb6 hm2 hF2)
                | (go_at_call 59; with_reducible refine HSF.out.mono ?_; clear HSF; rintro e w7 ⟨rfl, hb7⟩; replace HB := hide (below_step HB.out hb7); clear hb7)
                | (go_at_call 14; refine (HPK.out _).mono ?_; rintro e w8 ⟨rfl, rfl⟩)
                | (go_at_call 56; with_reducible refine (HPX.out _ HB.out).mono ?_; clear HPX; rintro e w9 ⟨l3, A3, n3, c3, hm3, hF3, rfl, hb9⟩; replace HB := hide (below_step HB.out hb9); have HSG := hide (fun cc => sameFiles_yes (c1 := c3) (c2 := cc) hF3 ((H.out.below HB.out).take K hKn2) hm3 (right_small ((right_same hm3).trans (right_take HR.out K))).2 (by have h1 := (right_small ((right_same hm3).trans (right_take HR.out K))).1; have h2 := hF3.hn; omega)); clear hb9 hm3 hF3)
                | (go_at_call 60; refine (HCN.out _).mono ?_; rintro e w10 ⟨rfl, rfl⟩)
                | (go_at_call 59; with_reducible refine (HSG.out _).mono ?_; clear HSG; rintro e w11 ⟨rfl, hb11⟩; replace HB := hide (below_step HB.out hb11); clear hb11))
              go_ret
              exact ⟨rfl, HB.out⟩
            · have hc : P[Z - 1] = 10 := by
                rcases hend2 with e | e
                · omega
                · rw [← HBP.out] at e
                  have h1 : (bl P)[Z - 1]? = some P[Z - 1] := by
                    have hlt : Z - 1 < (bl P).length := by rw [bl_length]; omega
                    rw [List.getElem?_eq_getElem hlt]
                    rfl
                  rw [h1] at e
                  exact Option.some.inj e
              obtain ⟨Y, rfl⟩ : ∃ Y, Z = Y + 1 := ⟨Z - 1, by omega⟩
              have y1 : decide ((0 : Int) < ((Y + 1 : Nat) : Int)) = true := decide_eq_true (by omega)
              have y2 : wrap64 (((Y + 1 : Nat) : Int) - 1) = (Y : Int) := by simp only [wrap64]; omega
              have y3 : (Y : Int) < (P.size : Int) := by omega
              have hYP : Y < P.size := by omega
              have hc' : P[Y] = 10 := hc
              have y4 : (((P[Y].toNat : Nat) : Int) != 10) = false := by rw [hc']; rfl
              have y4' : (P[Y].toNat != 10) = false := by rw [hc']; rfl
              clear hz hc hc' hend2
              go_enter Tryd.func8, Tryd.ntmps8
              go_wp2_with (first
                | (go_at_call 54; refine HH.out.mono ?_; rintro e w1 ⟨rfl, hb1⟩; have HB := hide hb1; clear hb1)
                | (go_at_call 55; refine (HE.out _ HB.out).mono ?_; rintro e w2 ⟨rfl, hb2⟩; replace HB := hide (below_step HB.out hb2); clear hb2)
                | (go_at_call 56; with_reducible refine (HPS.out _ HB.out).mono ?_; clear HPS; rintro e w3 ⟨l1, A1, k1, c1, hm1, hF1, rfl, hb3⟩; replace HB := hide (below_step HB.out hb3); have HPM := hide (print_good (c := c1) hF1 (by rw [← right_bare, hm1]; exact HPS2.out.1) (HL.out.below HB.out)); rw [← printL_bare l1, hm1, HPS2.out.2, ofl_bl] at HPM; clear hb3 hm1 hF1)
                | (go_at_call 57; with_reducible refine HPM.out.mono ?_; clear HPM; rintro e w4 ⟨rfl, hb4⟩; replace HB := hide (below_step HB.out hb4); clear hb4)
                | (go_at_call 57; with_reducible refine (HP.out _ HB.out).mono ?_; clear HP; rintro e w5 ⟨rfl, hb5⟩; replace HB := hide (below_step HB.out hb5); clear hb5)
                | (go_at_call 56; with_reducible refine (HPP.out _ HB.out).mono ?_; clear HPP; rintro e w6 ⟨l2, A2, n2, c2, hm2, hF2, rfl, hb6⟩; replace HB := hide (below_step HB.out hb6); have HSF := hide (sameFiles_yes (c1 := c2) (c2 := c) hF2 (H.out.below HB.out) hm2 (right_small ((right_same hm2).trans HR.out)).2 (by have h1 := (right_small ((right_same hm2).trans HR.out)).1; have h2 := hF2.hn; omega)); clear hb6 hm2 hF2)
                | (go_at_call 59; with_reducible refine HSF.out.mono ?_; clear HSF; rintro e w7 ⟨rfl, hb7⟩; replace HB := hide (below_step HB.out hb7); clear hb7)
                | (go_at_call 14; refine (HPK.out _).mono ?_; rintro e w8 ⟨rfl, rfl⟩)
                | (go_at_call 56; with_reducible refine (HPX.out _ HB.out).mono ?_; clear HPX; rintro e w9 ⟨l3, A3, n3, c3, hm3, hF3, rfl, hb9⟩; replace HB := hide (below_step HB.out hb9); have HSG := hide (fun cc => sameFiles_yes (c1 := c3) (c2 := cc) hF3 ((H.out.below HB.out).take K hKn2) hm3 (right_small ((right_same hm3).trans (right_take HR.out K))).2 (by have h1 := (right_small ((right_same hm3).trans (right_take HR.out K))).1; have h2 := hF3.hn; omega)); clear hb9 hm3 hF3)
                | (go_at_call 60; refine (HCN.out _).mono ?_; rintro e w10 ⟨rfl, rfl⟩)
                | (go_at_call 59; with_reducible refine (HSG.out _).mono ?_; clear HSG; rintro e w11 ⟨rfl, hb11⟩; replace HB := hide (below_step HB.out hb11); clear hb11))
              go_ret
              exact ⟨rfl, HB.out⟩
          · have hz : 0 < Z := Nat.pos_of_ne_zero fun e => hc2 (.inl e)
            obtain ⟨Y, rfl⟩ : ∃ Y, Z = Y + 1 := ⟨Z - 1, by omega⟩
            have hYP : Y < P.size := by omega
            have hc : ¬ P[Y] = 10 := fun e => hc2 (.inr (by
              have h1 : (bl P)[Y]? = some P[Y] := by
                have hlt : Y < (bl P).length := by rw [bl_length]; omega
                rw [List.getElem?_eq_getElem hlt]
                rfl
              show (printL l)[Y]? = some 10
              rw [← HBP.out, h1, e]))
            clear hz hc2
            have hbt : bl (P.extract 0 (Y + 1)) = (printL l).take Y ++ [P[Y]] := by
              rw [hbX, List.take_succ_eq_append_getElem (by omega)]
              congr 1
              simp only [← HBP.out]
              rfl
            have hpn : parseP (bl (P.extract 0 (Y + 1))) = none := by rw [hbt]; exact parse_cut (fun e => hc e)
            have HPX := hide (fun (W : World) (hb : Below w.heap.size w W) => parse_no hXs hpn (HL.out.below hb))
            have y1 : decide ((0 : Int) < ((Y + 1 : Nat) : Int)) = true := decide_eq_true (by omega)
            have y2 : wrap64 (((Y + 1 : Nat) : Int) - 1) = (Y : Int) := by simp only [wrap64]; omega
            have y3 : (Y : Int) < (P.size : Int) := by omega
            have y4 : (((P[Y].toNat : Nat) : Int) != 10) = true := by
              have : P[Y].toNat ≠ 10 := fun e => hc (UInt8.toNat_inj.1 e)
              simp; omega
            have y4' : (P[Y].toNat != 10) = true := by
              have : P[Y].toNat ≠ 10 := fun e => hc (UInt8.toNat_inj.1 e)
              simpa using this
            clear hc hpn hbt hbX hZl
            go_enter Tryd.func8, Tryd.ntmps8
            go_wp2_with (first
              | (go_at_call 54; refine HH.out.mono ?_; rintro e w1 ⟨rfl, hb1⟩; have HB := hide hb1; clear hb1)
              | (go_at_call 55; refine (HE.out _ HB.out).mono ?_; rintro e w2 ⟨rfl, hb2⟩; replace HB := hide (below_step HB.out hb2); clear hb2)
              | (go_at_call 56; with_reducible refine (HPS.out _ HB.out).mono ?_; clear HPS; rintro e w3 ⟨l1, A1, k1, c1, hm1, hF1, rfl, hb3⟩; replace HB := hide (below_step HB.out hb3); have HPM := hide (print_good (c := c1) hF1 (by rw [← right_bare, hm1]; exact HPS2.out.1) (HL.out.below HB.out)); rw [← printL_bare l1, hm1, HPS2.out.2, ofl_bl] at HPM; clear hb3 hm1 hF1)
              | (go_at_call 57; with_reducible refine HPM.out.mono ?_; clear HPM; rintro e w4 ⟨rfl, hb4⟩; replace HB := hide (below_step HB.out hb4); clear hb4)
              | (go_at_call 57; with_reducible refine (HP.out _ HB.out).mono ?_; clear HP; rintro e w5 ⟨rfl, hb5⟩; replace HB := hide (below_step HB.out hb5); clear hb5)
              | (go_at_call 56; with_reducible refine (HPP.out _ HB.out).mono ?_; clear HPP; rintro e w6 ⟨l2, A2, n2, c2, hm2, hF2, rfl, hb6⟩; replace HB := hide (below_step HB.out hb6); have HSF := hide (sameFiles_yes (c1 := c2) (c2 := c) hF2 (H.out.below HB.out) hm2 (right_small ((right_same hm2).trans HR.out)).2 (by have h1 := (right_small ((right_same hm2).trans HR.out)).1; have h2 := hF2.hn; omega)); clear hb6 hm2 hF2)
              | (go_at_call 59; with_reducible refine HSF.out.mono ?_; clear HSF; rintro e w7 ⟨rfl, hb7⟩; replace HB := hide (below_step HB.out hb7); clear hb7)
              | (go_at_call 14; refine (HPK.out _).mono ?_; rintro e w8 ⟨rfl, rfl⟩)
              | (go_at_call 56; with_reducible refine (HPX.out _ HB.out).mono ?_; clear HPX; rintro e w9 ⟨rfl, hb9⟩; replace HB := hide (below_step HB.out hb9); clear hb9))
            go_ret
            exact ⟨rfl, HB.out⟩
        · have hr' : rightB l = false := by simpa using hr
          have HP := hide (fun (W : World) (hb : Below w.heap.size w W) => print_bad (c := c) (H.out.below hb) hr')
          have HR := hide (fun (W : World) (hb : Below w.heap.size w W) => right_any (c := c) (H.out.below hb))
          rw [hr'] at HR
          clear hr hr'
          go_enter Tryd.func8, Tryd.ntmps8
          go_wp2_with (first
            | (go_at_call 54; refine HH.out.mono ?_; rintro e w1 ⟨rfl, hb1⟩; have HB := hide hb1; clear hb1)
            | (go_at_call 55; refine (HE.out _ HB.out).mono ?_; rintro e w2 ⟨rfl, hb2⟩; replace HB := hide (below_step HB.out hb2); clear hb2)
            | (go_at_call 56; with_reducible refine (HPS.out _ HB.out).mono ?_; clear HPS; rintro e w3 ⟨l1, A1, k1, c1, hm1, hF1, rfl, hb3⟩; replace HB := hide (below_step HB.out hb3); have HPM := hide (print_good (c := c1) hF1 (by rw [← right_bare, hm1]; exact HPS2.out.1) (HL.out.below HB.out)); rw [← printL_bare l1, hm1, HPS2.out.2, ofl_bl] at HPM; clear hb3 hm1 hF1)
            | (go_at_call 57; with_reducible refine HPM.out.mono ?_; clear HPM; rintro e w4 ⟨rfl, hb4⟩; replace HB := hide (below_step HB.out hb4); clear hb4)
            | (go_at_call 57; with_reducible refine (HP.out _ HB.out).mono ?_; clear HP; rintro e w5 ⟨rfl, hb5⟩; replace HB := hide (below_step HB.out hb5); clear hb5)
            | (go_at_call 58; refine (HR.out _ HB.out).mono ?_; rintro e w6 ⟨rfl, hb6⟩; replace HB := hide (below_step HB.out hb6); clear hb6))
          go_ret
          exact ⟨rfl, HB.out⟩
end Go.Proofs.YtmligbaalbbgiabDoor

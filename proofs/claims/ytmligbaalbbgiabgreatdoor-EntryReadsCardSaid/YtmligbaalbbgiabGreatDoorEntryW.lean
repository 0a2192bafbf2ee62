/- The function entry.Print. Conditions: the files can be read; the variables hold what is laid in them. -/
import Derived.Test.YtmligbaalbbgiabGreatDoorEntryV
import Derived.Test.YtmligbaalbbgiabGreatDoorEntryR
namespace Go.Proofs.YtmligbaalbbgiabGreatDoor
open Go.RowKit

theorem bl_app (a b : ByteArray) : bl (a ++ b) = bl a ++ bl b := by simp [bl]
/-- The cells so far. -/
theorem numsL_take {l : List Int} {J : Nat} (h : J < l.length) : numsL (l.take (J + 1)) = numsL (l.take J) ++ 32 :: Lib.itoa (l.getD J 0) := by
  rw [List.take_succ_eq_append_getElem h, numsL_snoc]
  simp [List.getD, h]
theorem printL_take {l : List FileD} {I : Nat} {x : FileD} (h : l[I]? = some x) : printL (l.take (I + 1)) = printL (l.take I) ++ (lineL x ++ [10]) := by
  rw [List.take_add_one, h, Option.toList_some, printL_snoc]

set_option maxRecDepth 100000 in
set_option maxHeartbeats 2000000 in
theorem print_bad {w : World} {A : Option Addr} {n c : Nat} {l : List FileD} (h : FilesAt w A n l) (hr : rightB l = false) :
    Calls Tryz.prog 6 #[.slice A n c] w fun e w' => e = .returned (.tuple #[.string ⟨#[]⟩, .iface 24 (.int .i64 1)]) ∧ Below w.heap.size w w' := by
  have HR := hide (right_any (c := c) h)
  rw [hr] at HR
  clear h hr
  go_enter Tryz.func6, Tryz.ntmps6
  go_wp2_with (go_at_call 8; refine HR.out.mono ?_; rintro e w1 ⟨rfl, hb1⟩; have HB := hide hb1; clear hb1)
  go_ret2
  exact ⟨rfl, HB.out⟩

set_option maxRecDepth 100000 in
set_option maxHeartbeats 4000000 in
theorem print_good {w : World} {A : Option Addr} {n c : Nat} {l : List FileD} (h : FilesAt w A n l) (hr : rightB l = true) (hL : LaidN w) :
    Calls Tryz.prog 6 #[.slice A n c] w fun e w' => e = .returned (.tuple #[.string (ofl (printL l)), .nilIface]) ∧ Below w.heap.size w w' := by
  have HR := hide (right_any (c := c) h)
  rw [hr] at HR
  obtain ⟨h8, hg, -⟩ := right_good hr
  have n8 : n ≤ 8 := by rw [h.hn]; exact h8
  have HN := hide h.hn
  have H := hide h
  have HG := hide hg
  have HL := hide hL
  have HRT := hide hr
  obtain ⟨P, hP⟩ : ∃ P, P = printL l := ⟨_, rfl⟩
  rw [← hP]
  have HP := hide hP
  clear h hr h8 hg hL hP
  go_enter Tryz.func6, Tryz.ntmps6
  go_wp2_with (go_at_call 8; refine HR.out.mono ?_; rintro e w1 ⟨rfl, hb1⟩; have HB1 := hide hb1; clear hb1)
  go_loopw [4, 15] (fun sv iv wr => ∃ I : Nat, iv = .int .i64 (I : Int) ∧ I ≤ n ∧ sv = .string (ofl (printL (l.take I))) ∧ Below w.heap.size w wr) (fun _ iv _ => n - (intOf iv).toNat)
  case atStart => exact ⟨0, rfl, by omega, rfl, HB1.out⟩
  case round =>
    clear HB1
    obtain ⟨I, rfl, hI, rfl, hb⟩ := hrel
    by_cases hlt : I < n
    · have d0 : decide (I < n) = true := by simpa using hlt
      obtain ⟨a, x, rfl, hlx, q0, q1, q2, -⟩ := (H.out.below hb).row I hlt
      have hcs : IntsIn w x.cA x.cells := by
        obtain ⟨_, x', _, hlx', _, _, _, hcs'⟩ := H.out.row I hlt
        rw [hlx] at hlx'
        obtain rfl := Option.some.inj hlx'
        exact hcs'
      have hgx := HG.out x (List.mem_of_getElem? hlx)
      obtain ⟨S, hS⟩ : ∃ S, S = ofl (printL (l.take I)) := ⟨_, rfl⟩
      rw [← hS]
      have hS240 : S.size ≤ 240 := by rw [hS]; exact print_fits (right_take HRT.out I)
      have hS2 : ofl (printL (l.take (I + 1))) = S ++ ofl (lineL x ++ [10]) := by rw [printL_take hlx, hS, ofl_append]
      have HS2 := hide hS2
      obtain ⟨T, hT⟩ : ∃ T, T = ofl (Lib.itoa x.size) := ⟨_, rfl⟩
      have hT4 : T.size ≤ 4 := by rw [hT]; exact itoa_len x.size hgx.s0 4 (by have := hgx.s1; omega) (by omega)
      have HT := hide hT
      have hN10 : x.name.size ≤ 10 := by rw [← bl_length]; exact (name_mem hgx.nm).2.1
      have HB := hide hb
      have HCS := hide hcs
      have HGX := hide hgx
      have hm24 : x.cells.length ≤ 24 := by
        rw [hgx.len]
        have := hgx.s1
        exact need_big _ (by omega)
      clear hb hcs hgx hlx hS hS2 hT
      go_upto_region 7 with fail
      obtain ⟨X, hX⟩ : ∃ X, X = wr.heap.size := ⟨_, rfl⟩
      obtain ⟨w6, hw6⟩ : ∃ w6, w6 = wr.alloc (.cells #[.string x.name, .int .i64 x.size, .slice x.cA x.cells.length x.cc] 44) := ⟨_, rfl⟩
      have hb6 : Below wr.heap.size wr w6 := by rw [hw6]; exact (Below.refl _ _).alloc (Nat.le_refl _) _
      have hx6 : Blk w6 X 44 #[.string x.name, .int .i64 x.size, .slice x.cA x.cells.length x.cc] := by rw [hw6, hX]; exact Blk.new _ _ _
      have HX6 := hide hx6
      have HBW6 := hide (below_step HB.out hb6)
      rw [← hw6, ← hX]
      clear hw6 hX hb6 hx6 q0 q1 q2
      have hxc : ∀ {W : World}, Below w6.heap.size w6 W → W.cell? ⟨X, 0, none⟩ = some (.string x.name) ∧ W.cell? ⟨X, 1, none⟩ = some (.int .i64 x.size) ∧ W.cell? ⟨X, 2, none⟩ = some (.slice x.cA x.cells.length x.cc) := fun hb => by
        have h := HX6.out.below hb HX6.out.lt
        exact ⟨h.cell 0, h.cell 1, h.cell 2⟩
      obtain ⟨C, hC⟩ := cls_ex w6
      refine wp_region_cls hC (by kernel_rfl) (by kernel_rfl) ?_
      repeat (go_big_quiet_step ((intro hc; first | rfl | (refine (itoa_any x.size (by have := HGX.out.s0; omega) (by have := HGX.out.s1; omega) (HL.out.below (below_step HBW6.out (hC.below _ hc)))).mono ?_; rintro e w7 ⟨rfl, hb7⟩; rw [← HT.out]; exact ⟨rfl, hC.step _ _ hc hb7⟩) | (obtain ⟨e0, e1, e2⟩ := hxc (hC.below _ hc); go_simp; first | done | exact ⟨rfl, rfl⟩ | rfl))))
      refine wpQuiet_nil ?_
      intro w7 hw7
      have hb7 := hC.below _ hw7
      have e2 := (hxc hb7).2.2
      have HB7 := hide (below_step HBW6.out hb7)
      clear hw7 hC hxc hb7
      go_upto_region 9 with fail
      obtain ⟨m, hm⟩ : ∃ m, m = x.cells.length := ⟨_, rfl⟩
      rw [← hm] at hm24
      rw [← hm]
      have HMD := hide hm
      clear hm e2
      have hS0 : bl (S ++ (x.name ++ ⟨#[32]⟩ ++ T)) = bl S ++ (bl x.name ++ 32 :: Lib.itoa x.size) ++ numsL (x.cells.take 0) := by
        rw [bl_app, bl_app, bl_app, HT.out, bl_ofl]
        simp [bl, numsL]
      have HS0 := hide hS0
      clear hS0
      go_loopw [4, 31] (fun sv jv W => ∃ (J : Nat) (V : ByteArray), jv = .int .i64 (J : Int) ∧ sv = .string V ∧ J ≤ m ∧ Below w.heap.size w W ∧ bl V = bl S ++ (bl x.name ++ 32 :: Lib.itoa x.size) ++ numsL (x.cells.take J)) (fun _ jv _ => m - (intOf jv).toNat)
      case atStart => exact ⟨0, _, rfl, rfl, by omega, HB7.out, HS0.out⟩
      case round =>
        clear HB7 HS0
        obtain ⟨J, V, rfl, rfl, hJ, hb2, hV⟩ := hrel
        have hV400 : V.size ≤ 400 := by
          have h1 := congrArg List.length hV
          have h2 := numsL_len (x.cells.take J) (fun k hk => by have := HGX.out.cs k (List.mem_of_mem_take hk); omega)
          have h3 : (x.cells.take J).length ≤ 24 := by rw [List.length_take]; omega
          have h4 : (Lib.itoa x.size).length ≤ 4 := by have := hT4; rw [HT.out, ofl_size] at this; exact this
          simp only [List.length_append, List.length_cons, bl_length] at h1
          omega
        by_cases hlt2 : J < m
        · have d1 : decide (J < m) = true := by simpa using hlt2
          have hJl : J < x.cells.length := by rw [← HMD.out]; exact hlt2
          obtain ⟨k, hk⟩ : ∃ k, k = x.cells.getD J 0 := ⟨_, rfl⟩
          have hke : x.cells[J] = k := by rw [hk]; simp [List.getD, hJl]
          have hkb := HGX.out.cs k (by rw [← hke]; exact List.getElem_mem hJl)
          obtain ⟨ca, hca, hcb, hcc⟩ := (HCS.out.keep (hb2)) (by omega)
          have q5 := hcc J hJl
          rw [← hk] at q5
          obtain ⟨T2, hT2⟩ : ∃ T, T = ofl (Lib.itoa k) := ⟨_, rfl⟩
          have hT2n : T2.size ≤ 2 := by rw [hT2]; exact itoa_len k (by omega) 2 (by omega) (by omega)
          have hV2 : bl (V ++ (⟨#[32]⟩ ++ T2)) = bl S ++ (bl x.name ++ 32 :: Lib.itoa x.size) ++ numsL (x.cells.take (J + 1)) := by
            rw [bl_app, bl_app, hV, numsL_take hJl, ← hk, hT2, bl_ofl]
            simp [bl]
          have HV2 := hide hV2
          have HT2 := hide hT2
          have HB2 := hide hb2
          have HKB := hide hkb
          rw [hca]
          clear hk hke hcb hcc hca hV hV2 hT2 hb2 hkb
          go_wp2_with (go_at_call 21; refine (itoa_any k (by have := HKB.out; omega) (by have := HKB.out; omega) (HL.out.below HB2.out)).mono ?_; rintro e w8 ⟨rfl, hb8⟩; rw [← HT2.out]; have HB8 := hide (below_step HB2.out hb8); clear hb8)
          go_roundw
          case rel => exact ⟨J + 1, _, by go_num, rfl, by omega, HB8.out, HV2.out⟩
          case measure => simp [intOf]; omega
        · have d1 : decide (J < m) = false := by simpa using hlt2
          obtain rfl : J = m := by omega
          have hV2 : V ++ ⟨#[10]⟩ = ofl (printL (l.take (I + 1))) := by
            apply bl_inj
            rw [HS2.out, bl_app, bl_app, hV, bl_ofl, List.take_of_length_le (by rw [← HMD.out]; exact Nat.le_refl _)]
            simp [bl, lineL]
          have HV2 := hide hV2
          have HB2 := hide hb2
          clear hV hV2 hb2
          go_wp2_with fail
          go_roundw
          case rel => exact ⟨I + 1, by go_num, by omega, by rw [HV2.out], HB2.out⟩
          case measure => simp [intOf]; omega
    · have d0 : decide (I < n) = false := by simpa using hlt
      obtain rfl : I = n := by omega
      have hp : ofl (printL (l.take I)) = ofl P := by rw [List.take_of_length_le (by rw [← HN.out]; exact Nat.le_refl _), HP.out]
      rw [hp]
      have HB := hide hb
      clear hp hb
      go_wp2_with fail
      go_ret2
      exact ⟨rfl, HB.out⟩
end Go.Proofs.YtmligbaalbbgiabGreatDoor

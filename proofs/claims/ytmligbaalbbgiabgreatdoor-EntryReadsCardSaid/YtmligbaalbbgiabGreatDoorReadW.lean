/- The reference's Print. Conditions: the files can be read, and are no more than 65536; the variables hold what is laid in them. -/
import Derived.Test.YtmligbaalbbgiabGreatDoorReadR
import Derived.Test.YtmligbaalbbgiabGreatDoorShelf2
import Derived.Laws.OwnMore
namespace Go.Proofs.YtmligbaalbbgiabGreatDoor
open Go.RowKit

theorem info_strW : (Tryz.prog.info? 9).map (fun i => (i.zero, i.size, i.bytes)) = some (some (.string ⟨#[]⟩), 1, 16) := by kernel_rfl
/-- A line's words. -/
def wordsL (x : FileD) (J : Nat) : List ByteArray := x.name :: ofl (Lib.itoa x.size) :: (x.cells.take J).map fun k => ofl (Lib.itoa k)
theorem wordsL_len (x : FileD) (J : Nat) (h : J ≤ x.cells.length) : (wordsL x J).length = 2 + J := by
  simp only [wordsL, List.length_cons, List.length_map, List.length_take]
  omega
theorem wordsL_next (x : FileD) (J : Nat) (h : J < x.cells.length) : (wordsL x (J + 1)).map Value.string = (wordsL x J).map Value.string ++ [Value.string (ofl (Lib.itoa (x.cells.getD J 0)))] := by
  have e : x.cells.take (J + 1) = x.cells.take J ++ [x.cells.getD J 0] := by
    rw [List.take_succ_eq_append_getElem h]
    simp [List.getD, h]
  simp [wordsL, e]
theorem join_line (x : FileD) : Lib.join ((wordsL x x.cells.length).map (·.data.toList)) [32] = lineL x := by
  unfold wordsL
  rw [List.map_cons, Lib.join_cons, List.take_of_length_le (Nat.le_refl _)]
  unfold lineL Lib.joinTail
  have e : ∀ l : List Int, (List.map (fun x => [32] ++ x) (List.map (fun x : ByteArray => x.data.toList) (List.map (fun k => ofl (Lib.itoa k)) l))).flatten = numsL l := fun l => by
    induction l with
    | nil => rfl
    | cons k r ih =>
      simp only [List.map_cons, List.flatten_cons, ih]
      simp [numsL, ofl]
  simp only [List.map_cons, List.flatten_cons, e]
  simp [bl, ofl]

set_option maxRecDepth 100000 in
set_option maxHeartbeats 2000000 in
theorem refprint_bad {w : World} {A : Option Addr} {n c : Nat} {l : List FileD} (h : FilesAt w A n l) (hn : n ≤ 65536) (hr : rightB l = false) :
    Calls Tryz.prog 5 #[.slice A n c] w fun e w' => e = .returned (.tuple #[.string ⟨#[]⟩, .int .i64 1]) ∧ Below w.heap.size w w' := by
  have HR := hide (refright_any (c := c) h hn)
  rw [hr] at HR
  clear h hr
  go_enter Tryz.func5, Tryz.ntmps5
  go_wp2_with (go_at_call 9; refine HR.out.mono ?_; rintro e w1 ⟨rfl, hb1⟩; have HB := hide hb1; clear hb1)
  go_ret2
  exact ⟨rfl, HB.out⟩

set_option maxRecDepth 100000 in
set_option maxHeartbeats 8000000 in
theorem refprint_good {w : World} {A : Option Addr} {n c : Nat} {l : List FileD} (h : FilesAt w A n l) (hr : rightB l = true) (hL : LaidN w) :
    Calls Tryz.prog 5 #[.slice A n c] w fun e w' => e = .returned (.tuple #[.string (ofl (printL l)), .int .i64 0]) ∧ Below w.heap.size w w' := by
  obtain ⟨h8, hg, -⟩ := right_good hr
  have n8 : n ≤ 8 := by rw [h.hn]; exact h8
  have HR := hide (refright_any (c := c) h (by omega))
  rw [hr] at HR
  have HN := hide h.hn
  have H := hide h
  have HG := hide hg
  have HL := hide hL
  have HRT := hide hr
  obtain ⟨P, hP⟩ : ∃ P, P = printL l := ⟨_, rfl⟩
  rw [← hP]
  have HP := hide hP
  obtain ⟨i0, hi0, hz0, hz1, hz2⟩ := info_parts info_strW
  have HI0 := hide hi0
  have HZ0 := hide hz0
  have HZ1 := hide hz1
  have HZ2 := hide hz2
  clear hi0 hz0 hz1 hz2
  clear h hr h8 hg hL hP
  go_enter Tryz.func5, Tryz.ntmps5
  go_wp2_with (go_at_call 9; refine HR.out.mono ?_; rintro e w1 ⟨rfl, hb1⟩; have HB1 := hide hb1; clear hb1)
  go_loopw [4, 15] (fun sv iv wr => ∃ I : Nat, iv = .int .i64 (I : Int) ∧ I ≤ n ∧ sv = .string (ofl (printL (l.take I))) ∧ Below w.heap.size w wr) (fun _ iv _ => n - (intOf iv).toNat)
  case atStart => exact ⟨0, rfl, by omega, rfl, HB1.out⟩
  case round =>
    clear HB1
    obtain ⟨I, rfl, hI, rfl, hb⟩ := hrel
    by_cases hlt : I < n
    · have d0 : decide (I < n) = true := by simpa using hlt
      obtain ⟨a, x, rfl, hlx, q0, q1, q2, -⟩ := (H.out.below hb).row I hlt
      have hcs : IntsIn w x.cA x.cells := by
        obtain ⟨_, x', _, hlx', _, _, _, hcs'⟩ := H.out.row I hlt
        rw [hlx] at hlx'
        obtain rfl := Option.some.inj hlx'
        exact hcs'
      have hgx := HG.out x (List.mem_of_getElem? hlx)
      obtain ⟨S, hS⟩ : ∃ S, S = ofl (printL (l.take I)) := ⟨_, rfl⟩
      rw [← hS]
      have hS240 : S.size ≤ 240 := by rw [hS]; exact print_fits (right_take HRT.out I)
      have hS2 : ofl (printL (l.take (I + 1))) = S ++ (ofl (lineL x) ++ ⟨#[10]⟩) := by rw [printL_take hlx, hS, ← ofl_append, ← ofl_append]; rfl
      have HS2 := hide hS2
      obtain ⟨T, hT⟩ : ∃ T, T = ofl (Lib.itoa x.size) := ⟨_, rfl⟩
      have HT := hide hT
      have hN10 : x.name.size ≤ 10 := by rw [← bl_length]; exact (name_mem hgx.nm).2.1
      have HB := hide hb
      have HCS := hide hcs
      have HGX := hide hgx
      have hm24 : x.cells.length ≤ 24 := by
        rw [hgx.len]
        have := hgx.s1
        exact need_big _ (by omega)
      clear hb hcs hgx hlx hS hS2 hT
      go_upto_region 7 with fail
      obtain ⟨X, hX⟩ : ∃ X, X = wr.heap.size := ⟨_, rfl⟩
      obtain ⟨w6, hw6⟩ : ∃ w6, w6 = wr.alloc (.cells #[.string x.name, .int .i64 x.size, .slice x.cA x.cells.length x.cc] 44) := ⟨_, rfl⟩
      have hb6 : Below wr.heap.size wr w6 := by rw [hw6]; exact (Below.refl _ _).alloc (Nat.le_refl _) _
      have hx6 : Blk w6 X 44 #[.string x.name, .int .i64 x.size, .slice x.cA x.cells.length x.cc] := by rw [hw6, hX]; exact Blk.new _ _ _
      have HX6 := hide hx6
      have HBW6 := hide (below_step HB.out hb6)
      rw [← hw6, ← hX]
      clear hw6 hX hb6 hx6 q0 q1 q2
      have hxc : ∀ {W : World}, Below w6.heap.size w6 W → W.cell? ⟨X, 0, none⟩ = some (.string x.name) ∧ W.cell? ⟨X, 1, none⟩ = some (.int .i64 x.size) ∧ W.cell? ⟨X, 2, none⟩ = some (.slice x.cA x.cells.length x.cc) := fun hb => by
        have h := HX6.out.below hb HX6.out.lt
        exact ⟨h.cell 0, h.cell 1, h.cell 2⟩
      obtain ⟨e0, e1, e2⟩ := hxc (Below.refl _ _)
      go_cut [7] from 19 to 43 (fun v wx => wx.ownsRow w6.heap.size 9 1 v 2 ((wordsL x 0).map Value.string) ∧ Below w6.heap.size w6 wx)
      case first =>
        go_region_law (go_simp; go_at_call 21; refine (itoa_any (w := w6.drew) x.size (by have := HGX.out.s0; omega) (by have := HGX.out.s1; omega) (HL.out.below ⟨HBW6.out.os, HBW6.out.tape, HBW6.out.output, HBW6.out.size, HBW6.out.block⟩)).mono ?_; rintro e w7 ⟨rfl, hb7⟩; rw [← HT.out]; obtain ⟨e0, e1, e2⟩ := hxc ⟨hb7.os, hb7.tape, hb7.output, hb7.size, hb7.block⟩; have HB7 : Hid (Below w6.heap.size w6 w7) := hide ⟨hb7.os, hb7.tape, hb7.output, hb7.size, hb7.block⟩; clear hb7)
        all_goals
          go_wp2_with fail
          go_meet
          case rel =>
            rw [HT.out]
            exact ⟨World.ownsRow_lit w7 #[.string x.name, .string (ofl (Lib.itoa x.size))] 2 HB7.out.size (by decide) rfl, HB7.out.alloc HB7.out.size _⟩
      case rest =>
        obtain ⟨hrow, hbc⟩ := hcut
        have e2 := (hxc hbc).2.2
        have HROW := hide hrow
        have HBC := hide hbc
        have HBW := hide (HBW6.out.size)
        have hcs6 : IntsIn w6 x.cA x.cells := HCS.out.keep HBW6.out
        have HC6 := hide hcs6
        clear hrow hbc hxc hcs6
        go_upto_region 9 with fail
        obtain ⟨m, hm⟩ : ∃ m, m = x.cells.length := ⟨_, rfl⟩
        rw [← hm] at hm24
        rw [← hm]
        have HMD := hide hm
        clear hm e2
        go_loopw [7, 28] (fun v jv W => ∃ J : Nat, jv = .int .i64 (J : Int) ∧ J ≤ m ∧ W.ownsRow w6.heap.size 9 1 v (2 + J) ((wordsL x J).map Value.string) ∧ Below w6.heap.size w6 W) (fun _ jv _ => m - (intOf jv).toNat)
        case atStart => exact ⟨0, rfl, by omega, HROW.out, HBC.out⟩
        case round =>
          clear HROW HBC
          obtain ⟨J, rfl, hJ, hrow, hb2⟩ := hrel
          by_cases hlt2 : J < m
          · have d1 : decide (J < m) = true := by simpa using hlt2
            have hJl : J < x.cells.length := by rw [← HMD.out]; exact hlt2
            obtain ⟨k, hk⟩ : ∃ k, k = x.cells.getD J 0 := ⟨_, rfl⟩
            have hke : x.cells[J] = k := by rw [hk]; simp [List.getD, hJl]
            have hkb := HGX.out.cs k (by rw [← hke]; exact List.getElem_mem hJl)
            obtain ⟨ca, hca, hcb, hcc⟩ := (HC6.out.keep hb2) (by omega)
            have q5 := hcc J hJl
            rw [← hk] at q5
            have hnx := wordsL_next x J hJl
            rw [← hk] at hnx
            have HNX := hide hnx
            have HROW := hide hrow
            have HB2 := hide hb2
            have HKB := hide hkb
            rw [hca]
            clear hk hke hcb hcc hca hrow hb2 hkb hnx
            go_wp2_with (first
              | (go_at_call 21; refine (itoa_any k (by have := HKB.out; omega) (by have := HKB.out; omega) (HL.out.below (below_step HBW6.out HB2.out))).mono ?_; rintro e w8 ⟨rfl, hb8⟩; have HB8 := hide (below_step HB2.out hb8); have HR8 := hide (own_below HROW.out hb8); clear hb8)
              | (at_builtin; go_loud (refine wpList_append_own_at _ rfl (.tmp 32) (.tmp 35) 46 rfl w6.heap.size 9 i0 (.string ⟨#[]⟩) 1 16 Tryz.underlying46 HI0.out HZ0.out HZ1.out HZ2.out rfl (by decide) _ _ _ rfl (HR8.out.alloc _) ⟨w8.heap.size, 0, none⟩ 1 1 [.string (ofl (Lib.itoa k))] rfl rfl (news_l _ _ _) (by simp [Value.oneCell']) (by unfold maxLen; omega) (by omega) (by have := HB8.out.size; simp; omega) ?_; intro v5 w5 hr5 hg5 _ hw5; have HR5 := hide hr5; have HB5 := hide ((HB8.out.alloc HB8.out.size _).grown hg5 (by have := HB8.out.size; simp; omega) (fun k hk => (HR8.out.lt k hk).1)); clear hr5 hg5 hw5)))
            go_roundw
            case rel => exact ⟨J + 1, by go_num, by omega, by rw [HNX.out]; exact HR5.out, HB5.out⟩
            case measure => simp [intOf]; omega
          · have d1 : decide (J < m) = false := by simpa using hlt2
            obtain rfl : J = m := by omega
            rw [Nat.add_comm 2 J] at hrow
            obtain ⟨g5, cap5, rfl⟩ := ownsRow_succ hrow
            obtain ⟨hg, hcap⟩ : g5 < wr.heap.size ∧ J + 2 ≤ cap5 := by
              rcases hrow.2 with ⟨h', -⟩ | ⟨g', cap', cur, h', -, hg, hc, -⟩
              · cases h'
              · cases h'
                exact ⟨(Array.getElem?_eq_some_iff.1 hg).1, hc⟩
            have hlen : (wordsL x J).length = J + 2 := by rw [wordsL_len x J (by rw [← HMD.out]; exact Nat.le_refl _)]; omega
            have hcl : ∀ (j : Nat) u, (wordsL x J)[j]? = some u → wr.cell? ⟨g5, 0 + j, none⟩ = some (.string u) := fun j u hj => by
              have h1 := hrow.cells rfl j (.string u) (by rw [List.getElem?_map, hj]; rfl)
              rwa [addr_add] at h1
            have hjn : Lib.join ((wordsL x J).map (·.data.toList)) ((⟨#[32]⟩ : ByteArray).data.toList) = lineL x := by rw [HMD.out]; exact join_line x
            have hll := line_len HGX.out
            have hjoin := Go.Proofs.Tryz.strings_Join g5 0 cap5 (wordsL x J) ⟨#[32]⟩ wr hcl hg (by omega) (by omega) (by have := HMD.out; rw [hjn]; omega)
            rw [hjn, hlen, ofl_mk (lineL x)] at hjoin
            obtain ⟨N, hNl⟩ : ∃ N, N = ofl (lineL x) := ⟨_, rfl⟩
            rw [← hNl] at hjoin
            have hN200 : N.size ≤ 200 := by have := HMD.out; rw [hNl, ofl_size]; omega
            have hS3 : ofl (printL (l.take (I + 1))) = S ++ (N ++ ⟨#[10]⟩) := by rw [HS2.out, hNl]
            have HS3 := hide hS3
            have HJ := hide hjoin
            have HB2 := hide hb2
            clear hrow hcl hjn hll hjoin hNl hb2 hg hcap hlen hS3
            go_wp2_with (go_at_call 22; refine HJ.out.mono ?_; rintro e w9 ⟨rfl, hb9⟩; have HB9 := hide (below_step HBW6.out (below_step HB2.out hb9)); clear hb9)
            go_roundw
            case rel => exact ⟨I + 1, by go_num, by omega, by rw [HS3.out], HB9.out⟩
            case measure => simp [intOf]; omega
    · have d0 : decide (I < n) = false := by simpa using hlt
      obtain rfl : I = n := by omega
      have hp : ofl (printL (l.take I)) = ofl P := by rw [List.take_of_length_le (by rw [← HN.out]; exact Nat.le_refl _), HP.out]
      rw [hp]
      have HB := hide hb
      clear hp hb
      go_wp2_with fail
      go_ret2
      exact ⟨rfl, HB.out⟩
end Go.Proofs.YtmligbaalbbgiabGreatDoor

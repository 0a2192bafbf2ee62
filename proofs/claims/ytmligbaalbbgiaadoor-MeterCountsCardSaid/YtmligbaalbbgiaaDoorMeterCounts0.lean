/- The walk of salternlaw.MeterCounts: it returns true. Conditions: the packages errors and sum have laid their variables. -/
import Derived.Test.YtmligbaalbbgiaaDoorProg
import Derived.Test.YtmligbaalbbgiaaDoorBase
import Derived.Test.YtmligbaalbbgiaaDoorMeter3
import Derived.Test.YtmligbaalbbgiaaDoorRoot5
import Derived.Test.YtmligbaalbbgiaaDoorTell
import Derived.Test.YtmligbaalbbgiaaDoorLong
namespace Go.Proofs.YtmligbaalbbgiaaDoor
open Go.RowKit

theorem bare_10 (w : World) (hg : LaidE w) : Calls Tryd.prog 20 #[.iface 31 (.int .i64 10), .int .i64 10] w fun e w' => e = .returned (.bool true) ∧ Below w.heap.size w w' := bare_errno 10 10 w hg
theorem bare_errV (n : Nat) (w : World) (hg : LaidE w) : Calls Tryd.prog 20 #[errV n, .int .i64 (n : Int)] w fun e w' => e = .returned (.bool true) ∧ Below w.heap.size w w' := by
  unfold errV
  split
  · rename_i h
    subst h
    exact (bare_ok w).mono fun e w' ⟨he, hw⟩ => ⟨he, hw ▸ Below.refl _ _⟩
  · refine (bare_errno n n w hg).mono fun e w' ⟨he, hw⟩ => ⟨?_, hw⟩
    rw [he]
    simp
theorem AtC.below {w w' : World} {b B : Nat} {n : Int} (h : AtC w b n) (hb : Below B w w') (hB : b < B) : AtC w' b n := ⟨(hb.cell (p := ⟨b, 0, none⟩) hB).trans h.1, (hb.frozen (p := ⟨b, 0, none⟩) hB).trans h.2⟩
theorem AtC.lt {w : World} {b : Nat} {n : Int} (h : AtC w b n) : b < w.heap.size := block_lt_of_cell h.1
theorem AtC.put {w : World} {b : Nat} {n : Int} (h : AtC w b n) (m : Int) : AtC (w.setCell ⟨b, 0, none⟩ (.int .i64 m)) b m := by
  refine ⟨World.cell?_setCell_same _ _ _ h.1, ?_⟩
  rw [World.frozen?_setCell]
  exact h.2

set_option maxRecDepth 100000 in
set_option maxHeartbeats 4000000 in
theorem counts_wide (A : Option Addr) (n cap : Nat) (s : ByteArray) (k : Int) (h : 60 < n ∨ 60 < s.size) (w : World) :
    Calls Tryd.prog 6 #[.slice A n cap, .string s, .int .u8 k] w fun e w' => e = .returned (.bool true) ∧ w = w' := by
  by_cases h1 : 60 < n
  · have c0 : decide ((60 : Int) < (n : Int)) = true := by simp; omega
    have c1 : decide (60 < n) = true := by simpa using h1
    clear h
    go_enter Tryd.func6, Tryd.ntmps6
    go_wp2_with fail
    go_ret
    exact ⟨rfl, rfl⟩
  · have c0 : decide ((60 : Int) < (n : Int)) = false := by simp; omega
    have c1 : decide (60 < n) = false := by simpa using h1
    have h2 : 60 < s.size := by omega
    clear h
    go_enter Tryd.func6, Tryd.ntmps6
    go_wp2_with (go_at_call 17; refine (long_yes _ h2 _).mono ?_; rintro e w1 ⟨rfl, rfl⟩)
    go_ret
    exact ⟨rfl, rfl⟩

set_option maxRecDepth 100000 in
set_option maxHeartbeats 4000000 in
theorem counts_good (A : Option Addr) (n cap : Nat) (zs : List Int) (s : ByteArray) (k : Nat) (hn : n ≤ 60) (hs : s.size ≤ 60) (w : World)
    (hA : 0 < n → ∃ a, A = some a ∧ a.block < w.heap.size ∧ ∀ i, i < n → w.cell? (a.add i) = some (.int .i64 (zs.getD i 0))) (hR : LaidR w) (hE : LaidE w) :
    Calls Tryd.prog 6 #[.slice A n cap, .string s, .int .u8 (k : Int)] w fun e w' => e = .returned (.bool true) ∧ Below w.heap.size w w' := by
  have HA := hide hA
  have HR := hide hR
  have HE := hide hE
  have HS : Hid (s.size ≤ 60) := hide hs
  have c0 : decide ((60 : Int) < (n : Int)) = false := by simp; omega
  have c1 : decide (60 < n) = false := by simp; omega
  have HC : Hid (AtC (w.alloc (.cells #[.int .i64 0] 44)) w.heap.size 0) := hide (by constructor <;> simp)
  have HB : Hid (Below w.heap.size w (w.alloc (.cells #[.int .i64 0] 44))) := hide ((Below.refl _ _).alloc (Nat.le_refl _) _)
  obtain ⟨K, hK⟩ : ∃ K, K = keyR s (wordOf k) (okOf k) := ⟨_, rfl⟩
  have HK := hide hK
  clear hA hR hE hK
  go_enter Tryd.func6, Tryd.ntmps6
  go_wp2_with (go_at_call 17; refine (long_no _ HS.out _).mono ?_; rintro e w1 ⟨rfl, rfl⟩)
  obtain ⟨C, hC⟩ : ∃ C, C = w.heap.size := ⟨_, rfl⟩
  rw [← hC] at HC ⊢
  have HCd := hide hC
  clear hC
  obtain ⟨W1, hW1⟩ : ∃ W1, W1 = w.alloc (.cells #[.int .i64 0] 44) := ⟨_, rfl⟩
  rw [← hW1] at HC HB ⊢
  clear hW1
  go_loopw [8, 9] (fun m i wr => ∃ (I : Nat) (N : Int), i = .int .i64 (I : Int) ∧ m = .int .i64 N ∧ I ≤ n ∧ AtC wr C N ∧ Below w.heap.size w wr) (fun _ i _ => n - (intOf i).toNat)
  case atStart => exact ⟨0, 0, rfl, rfl, by omega, HC.out, HB.out⟩
  case round =>
    clear HC HB
    obtain ⟨wa, rfl⟩ : ∃ wa : World, wa = wr := ⟨_, rfl⟩
    obtain ⟨I, N, rfl, rfl, hI, hc, hb⟩ := hrel
    by_cases hlt : I < n
    · have d0 : decide (I < n) = true := by simpa using hlt
      obtain ⟨a, rfl, ha, hcell⟩ := HA.out (by omega)
      have cx := (hb.cell (p := a.add I) (by rw [Go.ChangeShapes.block_add]; exact ha)).trans (hcell I hlt)
      obtain ⟨z, hz⟩ : ∃ z, z = zs.getD I 0 := ⟨_, rfl⟩
      rw [← hz] at cx
      have HCC := hide hc
      have HBE := hide hb
      clear hz hcell hc hb ha
      by_cases hzn : N < z
      · have d1 : decide (N < z) = true := by simpa using hzn
        have HCC2 : Hid (AtC (wa.drewN 1) C N) := hide HCC.out
        clear hzn
        go_upto_region 10 with fail
        go_quiet (fail)
        have HC2 : Hid (AtC (wa.drewN nq) C N) := hide HCC.out
        have HB2 := hide (below_drewN HBE.out nq)
        have cx2 : (wa.drewN nq).cell? (a.add I) = some (.int .i64 z) := cx
        obtain ⟨wb, hwb⟩ : ∃ wb, wb = wa.drewN nq := ⟨_, rfl⟩
        rw [← hwb] at HC2 HB2 cx2 ⊢
        clear hwb cx HCC HBE HCC2
        have hNz : N < z := by simpa using d1
        have HNZ := hide hNz
        clear hNz
        go_wp2_with (first
          | (go_at_call 23; go_loud (refine (raise_up C N z HNZ.out _ HC2.out).mono ?_; rintro e w1 ⟨rfl, hw1⟩; have HC3 : Hid (AtC w1 C z) := hide (hw1 ▸ HC2.out.put z); have HB3 : Hid (Below w.heap.size w w1) := hide (hw1 ▸ HB2.out.setCell (by show w.heap.size ≤ C; rw [HCd.out]; exact Nat.le_refl _) _); clear hw1 cx2))
          | (go_at_call 20; go_loud (refine (bare_ok _).mono ?_; rintro e w2 ⟨rfl, rfl⟩))
          | (go_at_call 25; go_loud (refine (get_any C z _ HC3.out).mono ?_; rintro e w2 ⟨rfl, rfl⟩)))
        exact ⟨⟨I + 1, z, by go_num, rfl, by omega, HC3.out, HB3.out⟩, by simp [intOf]; omega⟩
      · have d1 : decide (N < z) = false := by simpa using hzn
        have HZN : Hid (z ≤ N) := hide (by omega)
        clear hzn
        go_wp2_with (first
          | (go_at_call 23; go_loud (refine (raise_no C N z HZN.out _ HCC.out).mono ?_; rintro e w1 ⟨rfl, rfl⟩))
          | (go_at_call 20; go_loud (refine (bare_10 _ (HE.out.below HBE.out)).mono ?_; rintro e w2 ⟨rfl, hb2⟩; have HC3 := hide (HCC.out.below hb2 HCC.out.lt); have HB3 := hide (below_step HBE.out hb2); clear hb2))
          | (go_at_call 25; go_loud (refine (get_any C N _ HC3.out).mono ?_; rintro e w2 ⟨rfl, rfl⟩)))
        exact ⟨⟨I + 1, N, by go_num, rfl, by omega, HC3.out, HB3.out⟩, by simp [intOf]; omega⟩
    · obtain rfl : I = n := by omega
      have d0 : decide (I < I) = false := by simp
      have HBE := hide hb
      clear hb hc hlt hI
      go_wp2_with (first
        | (go_at_call 27; go_loud (refine (new_any _).mono ?_; rintro e w1 ⟨rfl, hr1, hb1⟩; have HR1 := hide hr1; have HB1 := hide (below_step HBE.out hb1); clear hb1 hr1))
        | (go_at_call 28; go_loud (refine (refkey_any s (by have := HS.out; omega) k _ _ HR1.out).mono ?_; rintro e w2 ⟨rfl, hb2⟩; rw [← HK.out]; have HB2 := hide (below_step HB1.out hb2); clear hb2))
        | (go_at_call 26; go_loud (refine (meterkey_any s (by have := HS.out; omega) k _ (HR.out.of_block (HB2.out.block _ HR.out.lt))).mono ?_; rintro e w3 ⟨rfl, hb3⟩; rw [← HK.out]; have HB3 := hide (below_step HB2.out hb3); clear hb3))
        | (go_at_call 20; go_loud (refine (bare_errV _ _ (HE.out.below HB3.out)).mono ?_; rintro e w4 ⟨rfl, hb4⟩; have HB4 := hide (below_step HB3.out hb4); clear hb4)))
      go_ret
      exact ⟨rfl, HB4.out⟩
theorem counts_any (A : Option Addr) (n cap : Nat) (zs : List Int) (s : ByteArray) (k : Nat) (w : World)
    (hA : 0 < n → ∃ a, A = some a ∧ a.block < w.heap.size ∧ ∀ i, i < n → w.cell? (a.add i) = some (.int .i64 (zs.getD i 0))) (hR : LaidR w) (hE : LaidE w) :
    Calls Tryd.prog 6 #[.slice A n cap, .string s, .int .u8 (k : Int)] w fun e w' => e = .returned (.bool true) ∧ Below w.heap.size w w' := by
  by_cases h : 60 < n ∨ 60 < s.size
  · exact (counts_wide A n cap s k h w).mono fun e w' ⟨he, hw⟩ => ⟨he, hw ▸ Below.refl _ _⟩
  · exact counts_good A n cap zs s k (by omega) (by omega) w hA hR hE
end Go.Proofs.YtmligbaalbbgiaaDoor

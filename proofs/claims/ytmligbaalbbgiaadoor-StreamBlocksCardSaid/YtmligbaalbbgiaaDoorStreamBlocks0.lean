/- The walk of salternlaw.StreamBlocks: it returns true. Condition: the package errors has laid its variable errorType. -/
import Derived.Test.YtmligbaalbbgiaaDoorProg
import Derived.Test.YtmligbaalbbgiaaDoorBase
import Derived.Test.YtmligbaalbbgiaaDoorStream3
import Derived.Test.YtmligbaalbbgiaaDoorStream4
import Derived.Test.YtmligbaalbbgiaaDoorStream5
import Derived.Test.YtmligbaalbbgiaaDoorStream6
import Derived.Test.YtmligbaalbbgiaaDoorRefStream3
import Derived.Test.YtmligbaalbbgiaaDoorRefStream4
import Derived.Test.YtmligbaalbbgiaaDoorTell
namespace Go.Proofs.YtmligbaalbbgiaaDoor
open Go.RowKit

theorem long_yes (s : ByteArray) (h : 60 < s.size) (w : World) : Calls Tryd.prog 17 #[.string s] w fun e w' => e = .returned (.bool true) ∧ w = w' := by
  have b : decide (60 < s.size) = true := by simpa using h
  go_enter Tryd.func17, Tryd.ntmps17
  go_wp2
  go_ret
  exact ⟨by simp; omega, rfl⟩
theorem long_no (s : ByteArray) (h : s.size ≤ 60) (w : World) : Calls Tryd.prog 17 #[.string s] w fun e w' => e = .returned (.bool false) ∧ w = w' := by
  have b : decide (60 < s.size) = false := by simp; omega
  go_enter Tryd.func17, Tryd.ntmps17
  go_wp2
  go_ret
  exact ⟨by simp; omega, rfl⟩
theorem bare_ok (w : World) : Calls Tryd.prog 20 #[.nilIface, .int .i64 0] w fun e w' => e = .returned (.bool true) ∧ w = w' := bare_nil 0 w
theorem bare_one (w : World) (hg : LaidE w) : Calls Tryd.prog 20 #[.iface 31 (.int .i64 1), .int .i64 1] w fun e w' => e = .returned (.bool true) ∧ Below w.heap.size w w' := bare_errno 1 1 w hg

set_option maxRecDepth 100000 in
set_option maxHeartbeats 4000000 in
theorem blocks_wide (key nonce s : ByteArray) (n : Int) (h : 60 < key.size ∨ 60 < nonce.size ∨ 300 < s.size) (w : World) :
    Calls Tryd.prog 4 #[.string key, .int .i64 n, .string nonce, .string s] w fun e w' => e = .returned (.bool true) ∧ w = w' := by
  by_cases h1 : 60 < key.size
  · clear h
    go_enter Tryd.func4, Tryd.ntmps4
    go_wp2_with (go_at_call 17; refine (long_yes _ h1 _).mono ?_; rintro e w1 ⟨rfl, rfl⟩)
    go_ret
    exact ⟨rfl, rfl⟩
  · by_cases h2 : 60 < nonce.size
    · clear h
      go_enter Tryd.func4, Tryd.ntmps4
      go_wp2_with (first
        | (go_at_call 17; refine (long_no key (by omega) _).mono ?_; rintro e w1 ⟨rfl, rfl⟩)
        | (go_at_call 17; refine (long_yes nonce h2 _).mono ?_; rintro e w1 ⟨rfl, rfl⟩))
      go_ret
      exact ⟨rfl, rfl⟩
    · have h3 : 300 < s.size := by omega
      clear h
      go_enter Tryd.func4, Tryd.ntmps4
      go_wp2_with (go_at_call 17; refine (long_no _ (by omega) _).mono ?_; rintro e w1 ⟨rfl, rfl⟩)
      go_ret
      exact ⟨rfl, rfl⟩

set_option maxRecDepth 100000 in
set_option maxHeartbeats 4000000 in
theorem blocks_good (key nonce s : ByteArray) (n : Nat) (h1 : key.size ≤ 60) (h2 : nonce.size ≤ 60) (h3 : s.size ≤ 300) (hk : key.size = 32) (hn : nonce.size = 12) (hg : n < 4294967296) (w : World) (hL : LaidE w) :
    Calls Tryd.prog 4 #[.string key, .int .i64 (n : Int), .string nonce, .string s] w fun e w' => e = .returned (.bool true) ∧ Below w.heap.size w w' := by
  have HB : Hid (Below w.heap.size w w) := hide (Below.refl _ _)
  have HL := hide hL
  have HS := hide h3
  clear hL
  have HK := hide hk
  have HN := hide hn
  have HG := hide hg
  clear hk hn hg
  obtain ⟨B, hB⟩ : ∃ B, B = ofl (block64 (bl key) (bl nonce) n) := ⟨_, rfl⟩
  obtain ⟨X, hX⟩ : ∃ X, X = ofl (xorS (bl key) (bl nonce) (bl s)) := ⟨_, rfl⟩
  have HB2 := hide hB
  have HX := hide hX
  clear hB hX
  go_enter Tryd.func4, Tryd.ntmps4
  go_wp2_with (first
    | (go_at_call 17; refine (long_no _ (by omega) _).mono ?_; rintro e w1 ⟨rfl, rfl⟩)
    | (go_at_call 18; refine (refBlock_good key nonce n HK.out HN.out HG.out _).mono ?_; rintro e w1 ⟨rfl, hb⟩; rw [← HB2.out]; have HB := hide (below_step HB.out hb); clear hb)
    | (go_at_call 19; refine (Block_good key nonce n HK.out HN.out HG.out _).mono ?_; rintro e w1 ⟨rfl, hb⟩; rw [← HB2.out]; have HB := hide (below_step HB.out hb); clear hb)
    | (go_at_call 21; refine (refXor_good key nonce s HK.out HN.out (by omega) _).mono ?_; rintro e w1 ⟨rfl, hb⟩; rw [← HX.out]; have HB := hide (below_step HB.out hb); clear hb)
    | (go_at_call 22; refine (Xor_good key nonce s HK.out HN.out (by omega) _).mono ?_; rintro e w1 ⟨rfl, hb⟩; rw [← HX.out]; have HB := hide (below_step HB.out hb); clear hb)
    | (go_at_call 20; with_reducible (refine (bare_ok _).mono ?_); rintro e w1 ⟨rfl, rfl⟩))
  go_ret
  exact ⟨rfl, HB.out⟩

set_option maxRecDepth 100000 in
set_option maxHeartbeats 4000000 in
theorem blocks_mid (key nonce s : ByteArray) (n : Int) (h1 : key.size ≤ 60) (h2 : nonce.size ≤ 60) (h3 : s.size ≤ 300) (hk : key.size = 32) (hn : nonce.size = 12) (hg : ¬ (0 ≤ n ∧ n < 4294967296)) (w : World) (hL : LaidE w) :
    Calls Tryd.prog 4 #[.string key, .int .i64 n, .string nonce, .string s] w fun e w' => e = .returned (.bool true) ∧ Below w.heap.size w w' := by
  have HB : Hid (Below w.heap.size w w) := hide (Below.refl _ _)
  have HL := hide hL
  have HS := hide h3
  clear hL
  have HK := hide hk
  have HN := hide hn
  have HG : Hid (¬ (key.size = 32 ∧ nonce.size = 12 ∧ 0 ≤ n ∧ n < 4294967296)) := hide (fun x => hg x.2.2)
  clear hk hn hg
  obtain ⟨X, hX⟩ : ∃ X, X = ofl (xorS (bl key) (bl nonce) (bl s)) := ⟨_, rfl⟩
  have HX := hide hX
  clear hX
  go_enter Tryd.func4, Tryd.ntmps4
  go_wp2_with (first
    | (go_at_call 17; refine (long_no _ (by omega) _).mono ?_; rintro e w1 ⟨rfl, rfl⟩)
    | (go_at_call 18; refine (refBlock_bad key nonce n HG.out _).mono ?_; rintro e w1 ⟨rfl, rfl⟩; unfold emptyV)
    | (go_at_call 19; refine (Block_bad key nonce n HG.out _).mono ?_; rintro e w1 ⟨rfl, rfl⟩; unfold emptyV errV)
    | (go_at_call 21; refine (refXor_good key nonce s HK.out HN.out (by omega) _).mono ?_; rintro e w1 ⟨rfl, hb⟩; rw [← HX.out]; have HB := hide (below_step HB.out hb); clear hb)
    | (go_at_call 22; refine (Xor_good key nonce s HK.out HN.out (by omega) _).mono ?_; rintro e w1 ⟨rfl, hb⟩; rw [← HX.out]; have HB := hide (below_step HB.out hb); clear hb)
    | (go_at_call 20; with_reducible (refine (bare_ok _).mono ?_); rintro e w1 ⟨rfl, rfl⟩)
    | (go_at_call 20; have hl := HL.out.below HB.out; with_reducible (refine (bare_one _ hl).mono ?_); clear hl; rintro e w1 ⟨rfl, hb⟩; have HB := hide (below_step HB.out hb); clear hb))
  go_ret
  exact ⟨rfl, HB.out⟩

set_option maxRecDepth 100000 in
set_option maxHeartbeats 4000000 in
theorem blocks_bad (key nonce s : ByteArray) (n : Int) (h1 : key.size ≤ 60) (h2 : nonce.size ≤ 60) (h3 : s.size ≤ 300) (hkn : ¬ (key.size = 32 ∧ nonce.size = 12)) (w : World) (hL : LaidE w) :
    Calls Tryd.prog 4 #[.string key, .int .i64 n, .string nonce, .string s] w fun e w' => e = .returned (.bool true) ∧ Below w.heap.size w w' := by
  have HB : Hid (Below w.heap.size w w) := hide (Below.refl _ _)
  have HL := hide hL
  have HS := hide h3
  clear hL
  have HK := hide hkn
  have HG : Hid (¬ (key.size = 32 ∧ nonce.size = 12 ∧ 0 ≤ n ∧ n < 4294967296)) := hide (fun x => hkn ⟨x.1, x.2.1⟩)
  clear hkn
  go_enter Tryd.func4, Tryd.ntmps4
  go_wp2_with (first
    | (go_at_call 17; refine (long_no _ (by omega) _).mono ?_; rintro e w1 ⟨rfl, rfl⟩)
    | (go_at_call 18; refine (refBlock_bad key nonce n HG.out _).mono ?_; rintro e w1 ⟨rfl, rfl⟩; unfold emptyV)
    | (go_at_call 19; refine (Block_bad key nonce n HG.out _).mono ?_; rintro e w1 ⟨rfl, rfl⟩; unfold emptyV errV)
    | (go_at_call 21; refine (refXor_bad key nonce s HK.out _).mono ?_; rintro e w1 ⟨rfl, rfl⟩; unfold emptyV)
    | (go_at_call 22; refine (Xor_bad key nonce s HK.out _).mono ?_; rintro e w1 ⟨rfl, hb⟩; unfold emptyV errV; have HB := hide (below_step HB.out hb); clear hb)
    | (go_at_call 20; have hl := HL.out.below HB.out; with_reducible (refine (bare_one _ hl).mono ?_); clear hl; rintro e w1 ⟨rfl, hb⟩; have HB := hide (below_step HB.out hb); clear hb))
  go_ret
  exact ⟨rfl, HB.out⟩
theorem blocks_any (key nonce s : ByteArray) (n : Int) (w : World) (hL : LaidE w) :
    Calls Tryd.prog 4 #[.string key, .int .i64 n, .string nonce, .string s] w fun e w' => e = .returned (.bool true) ∧ Below w.heap.size w w' := by
  by_cases h : 60 < key.size ∨ 60 < nonce.size ∨ 300 < s.size
  · exact (blocks_wide key nonce s n h w).mono fun e w' ⟨he, hw⟩ => ⟨he, hw ▸ Below.refl _ _⟩
  · by_cases hkn : key.size = 32 ∧ nonce.size = 12
    · by_cases hg : 0 ≤ n ∧ n < 4294967296
      · obtain ⟨n, rfl⟩ := Int.eq_ofNat_of_zero_le hg.1
        exact blocks_good key nonce s n (by omega) (by omega) (by omega) hkn.1 hkn.2 (by omega) w hL
      · exact blocks_mid key nonce s n (by omega) (by omega) (by omega) hkn.1 hkn.2 hg w hL
    · exact blocks_bad key nonce s n (by omega) (by omega) (by omega) hkn w hL
end Go.Proofs.YtmligbaalbbgiaaDoor

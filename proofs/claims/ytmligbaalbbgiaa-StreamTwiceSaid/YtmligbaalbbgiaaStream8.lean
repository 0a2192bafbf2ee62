/- The walk of salternkeep.StreamTwice: it returns true. -/
import Derived.Test.YtmligbaalbbgiaaProg
import Derived.Test.YtmligbaalbbgiaaBase
import Derived.Test.YtmligbaalbbgiaaPick
import Derived.Test.YtmligbaalbbgiaaStream5
import Derived.Test.YtmligbaalbbgiaaStream6
import Derived.Test.YtmligbaalbbgiaaStream7
namespace Go.Proofs.Ytmligbaalbbgiaa
open Go.RowKit

set_option maxRecDepth 100000 in
set_option maxHeartbeats 4000000 in
theorem twice_wide (key nonce s t : ByteArray) (cut : Int) (h : 40 < key.size ∨ 40 < nonce.size ∨ 300 < s.size ∨ 300 < t.size) (w : World) :
    Calls Try.prog 4 #[.string key, .string nonce, .string s, .string t, .int .i64 cut] w fun e w' => e = .returned (.bool true) ∧ w = w' := by
  by_cases h1 : 40 < key.size
  · clear h
    go_enter Try.func4, Try.ntmps4
    go_wp2_with fail
    go_ret
    exact ⟨rfl, rfl⟩
  · by_cases h2 : 40 < nonce.size
    · clear h
      go_enter Try.func4, Try.ntmps4
      go_wp2_with fail
      go_ret
      exact ⟨rfl, rfl⟩
    · by_cases h3 : 300 < s.size
      · clear h
        go_enter Try.func4, Try.ntmps4
        go_wp2_with fail
        go_ret
        exact ⟨rfl, rfl⟩
      · have h4 : 300 < t.size := by omega
        clear h
        go_enter Try.func4, Try.ntmps4
        go_wp2_with fail
        go_ret
        exact ⟨rfl, rfl⟩

set_option maxRecDepth 100000 in
set_option maxHeartbeats 4000000 in
theorem twice_bad (key nonce s t : ByteArray) (cut : Int) (h1 : key.size ≤ 40) (h2 : nonce.size ≤ 40) (h3 : s.size ≤ 300) (h4 : t.size ≤ 300) (h : ¬ (key.size = 32 ∧ nonce.size = 12)) (w : World) :
    Calls Try.prog 4 #[.string key, .string nonce, .string s, .string t, .int .i64 cut] w fun e w' => e = .returned (.bool true) ∧ Below w.heap.size w w' := by
  have HH := hide h
  have HB : Hid (Below w.heap.size w w) := hide (Below.refl _ _)
  by_cases hk : key.size = 32
  · have b1 : ((key.size : Int) != 32) = false := by rw [hk]; rfl
    have b2 : ((nonce.size : Int) != 12) = true := by simp; omega
    clear h hk
    go_enter Try.func4, Try.ntmps4
    go_wp2_with (first
      | (go_at_call 8; refine (streamed_any _).mono ?_; rintro e w1 ⟨rfl, hb⟩; have HB := hide (below_step HB.out hb); clear hb)
      | (go_at_call 10; refine (Xor_bad key nonce _ HH.out _).mono ?_; rintro e w2 ⟨rfl, hb⟩; unfold emptyV errV; have HB := hide (below_step HB.out hb); clear hb))
    go_ret
    exact ⟨rfl, HB.out⟩
  · have b1 : ((key.size : Int) != 32) = true := by simp; omega
    clear h hk
    go_enter Try.func4, Try.ntmps4
    go_wp2_with (first
      | (go_at_call 8; refine (streamed_any _).mono ?_; rintro e w1 ⟨rfl, hb⟩; have HB := hide (below_step HB.out hb); clear hb)
      | (go_at_call 10; refine (Xor_bad key nonce _ HH.out _).mono ?_; rintro e w2 ⟨rfl, hb⟩; unfold emptyV errV; have HB := hide (below_step HB.out hb); clear hb))
    go_ret
    exact ⟨rfl, HB.out⟩

set_option maxRecDepth 100000 in
set_option maxHeartbeats 8000000 in
theorem twice_good (key nonce s t : ByteArray) (cut : Int) (h3 : s.size ≤ 300) (h4 : t.size ≤ 300) (hk : key.size = 32) (hn : nonce.size = 12) (w : World) :
    Calls Try.prog 4 #[.string key, .string nonce, .string s, .string t, .int .i64 cut] w fun e w' => e = .returned (.bool true) ∧ Below w.heap.size w w' := by
  have HB : Hid (Below w.heap.size w w) := hide (Below.refl _ _)
  have b1 : key.size ≤ 40 := by omega
  have b2 : nonce.size ≤ 40 := by omega
  obtain ⟨A, hA⟩ : ∃ A, A = ofl (xorS (bl key) (bl nonce) (bl s)) := ⟨_, rfl⟩
  obtain ⟨B, hB⟩ : ∃ B, B = ofl (xorS (bl key) (bl nonce) (bl t)) := ⟨_, rfl⟩
  have a1 : A.size = s.size := by rw [hA, ofl_size, xorS_length, bl_length]
  have a2 : B.size = t.size := by rw [hB, ofl_size, xorS_length, bl_length]
  have b3 : A.size ≤ s.size := by omega
  have b4 : s.size ≤ A.size := by omega
  have b5 : B.size ≤ t.size := by omega
  have b6 : t.size ≤ B.size := by omega
  have c1 : ofl (xorS (bl key) (bl nonce) (bl A)) = s := by rw [hA, bl_ofl, xorS_xorS, ofl_bl]
  have c2 : ∀ k (h1 : k < s.size) (h2 : k < t.size) (p1 : k < A.size) (p2 : k < B.size), A[k]'p1 ^^^ B[k]'p2 = s[k] ^^^ t[k] := by
    intro k h1 h2 p1 p2
    have e1 : A[k]'p1 = s[k] ^^^ ks (bl key) (bl nonce) k := by
      subst hA
      exact xorS_getElem (bl key) (bl nonce) (bl s) k (by rw [bl_length]; exact h1)
    have e2 : B[k]'p2 = t[k] ^^^ ks (bl key) (bl nonce) k := by
      subst hB
      exact xorS_getElem (bl key) (bl nonce) (bl t) k (by rw [bl_length]; exact h2)
    rw [e1, e2, xor_xor_cancel]
  have c3 : ∀ c, c ≤ s.size → ofl (xorS (bl key) (bl nonce) (bl (s.extract 0 c))) = A.extract 0 c := by
    intro c hc
    apply bl_inj
    rw [bl_ofl, bl_extract, bl_extract, hA, bl_ofl, List.drop_zero, List.drop_zero, xorS_take]
  have t1 : ((A.size : Int) != (s.size : Int)) = false := by rw [a1]; simp
  have t2 : (A.size != s.size) = false := by rw [a1]; simp
  obtain ⟨c, hc⟩ : ∃ c : Nat, pickI cut ((s.size : Int) + 1) = (c : Int) := Int.eq_ofNat_of_zero_le (pickI_bd cut _ (by omega) (by omega)).1
  have hcs : c ≤ s.size := by have := (pickI_bd cut ((s.size : Int) + 1) (by omega) (by omega)).2; omega
  have HA := hide hA
  have HBB := hide hB
  have HK := hide hk
  have HN := hide hn
  have C1 := hide c1
  have C2 := hide c2
  have C3 := hide (c3 c hcs)
  have HC := hide hc
  clear hA hB a1 a2 c1 c2 c3 hk hn hc
  go_enter Try.func4, Try.ntmps4
  go_wp2_with (first
    | (go_at_call 8; refine (streamed_any _).mono ?_; rintro e w1 ⟨rfl, hb⟩; have HB := hide (below_step HB.out hb); clear hb)
    | (go_at_call 10; refine (Xor_good key nonce _ HK.out HN.out (by omega) _).mono ?_; rintro e w2 ⟨rfl, hb⟩; (first | rw [← HA.out] | rw [← HBB.out] | rw [C1.out]); have HB := hide (below_step HB.out hb); clear hb))
  go_loopw [17] (fun i wr => ∃ k : Nat, k ≤ s.size ∧ k ≤ t.size ∧ i = .int .i64 (k : Int) ∧ Below w.heap.size w wr) (fun i _ => s.size - (intOf i).toNat)
  case atStart => exact ⟨0, by omega, by omega, rfl, HB.out⟩
  case round =>
    clear HB
    obtain ⟨k, hk1, hk2, rfl, hbel⟩ := hrel
    by_cases hgo : k < s.size ∧ k < t.size
    · obtain ⟨g1, g2⟩ := hgo
      have d1 : decide (k < s.size) = true := by simpa using g1
      have d2 : decide (k < t.size) = true := by simpa using g2
      have i0 : (0 : Int) ≤ (k : Int) := by omega
      have i1 : (k : Int) < (s.size : Int) := by omega
      have i2 : (k : Int) < (t.size : Int) := by omega
      have i3 : (k : Int) < (A.size : Int) := by omega
      have i4 : (k : Int) < (B.size : Int) := by omega
      have p1 : k < A.size := by omega
      have p2 : k < B.size := by omega
      have x1 : bits .xor .u8 (A[k].toNat : Int) (B[k].toNat : Int) = bits .xor .u8 (s[k].toNat : Int) (t[k].toNat : Int) := by
        rw [bits_xor_u8, bits_xor_u8, C2.out k g1 g2 p1 p2]
      obtain ⟨X, hX⟩ : ∃ X, X = bits .xor .u8 (s[k].toNat : Int) (t[k].toNat : Int) := ⟨_, rfl⟩
      rw [← hX] at x1
      have x2 := hX.symm
      clear hX
      go_upto_region 15 with fail
      go_quiet (fail)
      go_wp2_with fail
      go_roundw
      case rel => exact ⟨k + 1, by omega, by omega, by go_num, below_drewN hbel _⟩
      case measure => simp [intOf]; omega
    · have HB := hide hbel
      have d : (decide (k < s.size) = false) ∨ (decide (k < s.size) = true ∧ decide (k < t.size) = false) := by
        by_cases g1 : k < s.size
        · right; exact ⟨by simpa using g1, by simp; omega⟩
        · left; simpa using g1
      clear hgo hbel
      rcases d with d1 | ⟨d1, d2⟩
      all_goals
        go_wp2_with (first
          | (go_at_call 11; refine (pick_any cut _ (by omega) (by omega) _).mono ?_; rintro e w1 ⟨rfl, rfl⟩; rw [HC.out])
          | (go_at_call 10; refine (Xor_good key nonce _ HK.out HN.out (by simp; omega) _).mono ?_; rintro e w2 ⟨rfl, hb⟩; rw [C3.out]; have HB := hide (below_step HB.out hb); clear hb))
        go_ret
        exact ⟨rfl, HB.out⟩
end Go.Proofs.Ytmligbaalbbgiaa

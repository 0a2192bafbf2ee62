/- The reference's device: Put at whatever arguments; lose with Sync's functions, Sync. Conditions: a device lies at the receiver; at most 65536 writes wait. -/
import Derived.Test.YtmligbaalbbgiabDoorRefZone4
namespace Go.Proofs.YtmligbaalbbgiabDoor
open Go.RowKit

theorem rput_any {w : World} {base b : Nat} {D : Dv} {m : Nat → Prop} (h : RDev w base b D m) (k : Int) (s : ByteArray) (hl : D.q.length ≤ 65536) :
    Calls Tryd.prog 35 #[.pointer (some ⟨b, 0, none⟩), .int .i64 k, .string s] w fun e w' => e = .returned (.int .i64 (putR D k s).2) ∧
      ∃ m', RDev w' base b (putR D k s).1 m' ∧ Moves w w' m m' := by
  by_cases h1 : k < 0 ∨ 1 < k
  · have HI := hide (fun w => refin_is k 0 1 false (by simp; omega) w)
    have e : putR D k s = (D, 2) := by unfold putR; rw [if_pos h1]
    rw [e]
    have H := hide h
    clear h h1 e
    go_enter Tryd.func35, Tryd.ntmps35
    go_wp2_with (go_at_call 81; refine (HI.out _).mono ?_; rintro e w1 ⟨rfl, rfl⟩)
    go_ret
    exact ⟨rfl, m, H.out, Moves.refl _ _⟩
  · obtain ⟨K, rfl⟩ := Int.eq_ofNat_of_zero_le (show 0 ≤ k by omega)
    have hK : K < 2 := by omega
    have HI := hide (fun w => refin_is (K : Int) 0 1 true (by simp; omega) w)
    by_cases h2 : 500 < s.size
    · have c3 : decide (500 < s.size) = true := by simpa using h2
      have c3' : decide ((500 : Int) < (s.size : Int)) = true := by simp; omega
      have e : putR D (K : Int) s = (D, 4) := by unfold putR; rw [if_neg h1, if_pos h2]
      rw [e]
      have H := hide h
      clear h h1 h2 e
      go_enter Tryd.func35, Tryd.ntmps35
      go_wp2_with (go_at_call 81; refine (HI.out _).mono ?_; rintro e w1 ⟨rfl, rfl⟩)
      go_ret
      exact ⟨rfl, m, H.out, Moves.refl _ _⟩
    · by_cases h4 : D.f = 0
      · have c3 : decide (500 < s.size) = false := by simpa using h2
        have c3' : decide ((500 : Int) < (s.size : Int)) = false := by simp; omega
        have e : putR D (K : Int) s = (D, 14) := by unfold putR; rw [if_neg h1, if_neg h2, if_pos h4]
        have eb : D.burn = D := by unfold Dv.burn; rw [if_neg (by omega)]
        have d0 : decide (D.f = 0) = true := by simp [h4]
        rw [e]
        have EB := hide eb
        have H := hide h
        clear h h1 h2 h4 e eb
        go_enter Tryd.func35, Tryd.ntmps35
        go_wp2_with (first
          | (go_at_call 81; refine (HI.out _).mono ?_; rintro e w1 ⟨rfl, rfl⟩)
          | (go_at_call 88; refine (rspent_any H.out).mono ?_; rintro e w1 ⟨rfl, h1, hm1⟩; rw [d0]; have H1 := hide h1; have HM1 := hide hm1; clear h1 hm1))
        go_ret
        exact ⟨rfl, m, EB.out ▸ H1.out, HM1.out⟩
      · have e : putR D (K : Int) s = ({ D.burn with q := D.q ++ [(K, padB s 500)] }, 0) := by
          unfold putR; rw [if_neg h1, if_neg h2, if_neg h4]; simp
        rw [e]
        exact rput_good h K hK s (by omega) h4 hl
end Go.Proofs.YtmligbaalbbgiabDoor

/- The statement ZoneSure: for every input the law returns true, and each argument reads afterwards as it read before. No condition. -/
import Derived.Test.YtmligbaalbbgiaaRows
import Derived.Test.YtmligbaalbbgiaaZoneSure1
import Derived.Test.YtmligbaalbbgiaaOpen
import Derived.WalkKit
import Derived.ProofKit
import Derived.OpenShut
import Derived.Carry
import Derived.ChangeSlices
import Derived.ChangeOld
import Derived.Below
namespace Go.Proofs.Ytmligbaalbbgiaa
open Go.ChangeShapes Go.WideShapes Go.ChangeAt Go.RowKit

theorem sure_any (w : World) (X : SArgs) (kc sc : Nat) (h1 : StrsAt w X.a X.n X.c X.l) (h2 : StrsAt w X.a' X.n' X.c' X.l') (hks : NumsOut w (fun _ => False) X.A X.ks) (hN : X.N = X.ks.length)
    (hkp : IntsArg w (fun _ => False) X.K X.kp) (hsl : BoolsArg w (fun _ => False) X.B X.sl) :
    Calls Try.prog 5 #[.slice X.a X.n X.c, .slice X.a' X.n' X.c', .slice X.A X.N X.C, .slice X.K X.kp.length kc, .slice X.B X.sl.length sc] w fun e w' => e = .returned (.bool true) ∧ Below w.heap.size w w' := by
  cases e1 : fewB X.l
  · exact sure_wide w _ _ _ _ _ _ _ _ _ _ _ _ _ _ _ _ _ h1 h2 (.inl e1)
  · cases e2 : fewB X.l'
    · exact sure_wide w _ _ _ _ _ _ _ _ _ _ _ _ _ _ _ _ _ h1 h2 (.inr (.inl e2))
    · by_cases h3 : X.N = 0
      · exact sure_wide w _ _ _ _ _ _ _ _ _ _ _ _ _ _ _ _ _ h1 h2 (.inr (.inr (.inl h3)))
      · by_cases h4 : 20 < X.N
        · exact sure_wide w _ _ _ _ _ _ _ _ _ _ _ _ _ _ _ _ _ h1 h2 (.inr (.inr (.inr (.inl h4))))
        · by_cases h5 : 20 < X.kp.length
          · exact sure_wide w _ _ _ _ _ _ _ _ _ _ _ _ _ _ _ _ _ h1 h2 (.inr (.inr (.inr (.inr (.inl h5)))))
          · by_cases h6 : 20 < X.sl.length
            · exact sure_wide w _ _ _ _ _ _ _ _ _ _ _ _ _ _ _ _ _ h1 h2 (.inr (.inr (.inr (.inr (.inr h6)))))
            · exact sure_good w X kc sc h1 h2 hks hN hkp hsl e1 e2 h3 (by omega) (by omega) (by omega)

theorem ownNone : ownKnob Try.prog.godebug = none := by kernel_rfl
theorem laidOut : laidOutB Try.prog = true := by kernel_rfl

set_option maxRecDepth 100000 in
theorem sure_lifted (os : Os) (started : os.Started) (H : Type) (enc : TypeId × Value → H) :
    ReturnsInHanded {} Try.checked os 5 .any (Rows.zoneSureSpec.pre6 enc Try.prog Try.f5 Rows.zoneSureRow.domain false) (Rows.zoneSureSpec.post enc Try.prog Try.f5 false true false false) := by
  refine returnsInHanded_of_change (C := Try.checked) ownNone started (by kernel_rfl) Try.func5
    (ChangeSpec.witness6 (enc := enc) (C := Try.checked) false ⟨#[], #[.slice none 0 0, .slice none 0 0, .slice none 0 0, .slice none 0 0, .slice none 0 0], []⟩ 8 (by kernel_rfl) (by kernel_rfl) (by kernel_rfl) (by kernel_rfl)) ?_
  intro W base args ds gs before hval0 hW hcnd _
  have hval : ∀ (j : Nat) t v, Try.f5.params[j]? = some t → args[j]? = some v → Value.okWide Try.prog W .any base t v := hval0
  have hW' := hW
  obtain ⟨p, q, hA0, hV, rfl, hfz, hnd⟩ := hW
  have hA : DataW.TrodAll enc Try.prog W 0 (fun _ => true) true Try.f5.params.toList args.toList ds p := hA0
  rw [Try.params5] at hA hval
  obtain ⟨v0, vs0, d0, ds0, p0, q0, hargs, rfl, rfl, h0, r0⟩ := trodAll_cons hA
  obtain ⟨v1, vs1, d1, ds1, p1, q1, rfl, rfl, rfl, h1, r1⟩ := trodAll_cons r0
  obtain ⟨v2, vs2, d2, ds2, p2, q2, rfl, rfl, rfl, h2, r2⟩ := trodAll_cons r1
  obtain ⟨v3, vs3, d3, ds3, p3, q3, rfl, rfl, rfl, h3, r3⟩ := trodAll_cons r2
  obtain ⟨v4, vs4, d4, ds4, p4, q4, rfl, rfl, rfl, h4, r4⟩ := trodAll_cons r3
  obtain ⟨rfl, rfl, rfl⟩ := trodAll_nil r4
  obtain rfl : args = #[v0, v1, v2, v3, v4] := by cases args; simp_all
  obtain ⟨rfl, rfl⟩ := trodVars_none hV
  obtain ⟨A0, n0, c0, rfl⟩ := okWide_slice Try.underlying31 (hval 0 31 v0 rfl rfl)
  obtain ⟨A1, n1, c1, rfl⟩ := okWide_slice Try.underlying31 (hval 1 31 v1 rfl rfl)
  obtain ⟨A2, n2, c2, rfl⟩ := okWide_slice Try.underlying32 (hval 2 32 v2 rfl rfl)
  obtain ⟨A3, n3, c3, rfl⟩ := okWide_slice Try.underlying32 (hval 3 32 v3 rfl rfl)
  obtain ⟨A4, n4, c4, rfl⟩ := okWide_slice Try.underlying33 (hval 4 33 v4 rfl rfl)
  have hlt0 : ∀ x ∈ p0, x.block < W.heap.size := fun x hx => hW'.lt x (by simp [hx])
  have hlt1 : ∀ x ∈ p1, x.block < W.heap.size := fun x hx => hW'.lt x (by simp [hx])
  have hlt2 : ∀ x ∈ p2, x.block < W.heap.size := fun x hx => hW'.lt x (by simp [hx])
  have hlt3 : ∀ x ∈ p3, x.block < W.heap.size := fun x hx => hW'.lt x (by simp [hx])
  have hlt4 : ∀ x ∈ p4, x.block < W.heap.size := fun x hx => hW'.lt x (by simp [hx])
  obtain ⟨l, hl⟩ := strs_open Try.underlying31 Try.underlying9 (by kernel_rfl) h0
  obtain ⟨l', hl'⟩ := strs_open Try.underlying31 Try.underlying9 (by kernel_rfl) h1
  obtain ⟨ks, hks, hnum⟩ := nums_open Try.underlying32 Try.underlying3 (by kernel_rfl) h2
  obtain ⟨kp, rfl, hkp⟩ := nums_open Try.underlying32 Try.underlying3 (by kernel_rfl) h3
  obtain ⟨sl, rfl, hsl⟩ := bools_open Try.underlying33 Try.underlying4 (by kernel_rfl) h4
  clear hA0 hval0
  refine (sure_any W ⟨A0, n0, c0, A1, n1, c1, A2, n2, c2, l, l', ks, A3, kp, A4, sl⟩ c3 c4 hl hl' hnum hks hkp.at_ hsl).mono fun e W' ⟨he, bel⟩ => ?_
  subst he
  exact ⟨_, rfl, _, _, _, [], _, [], hW', trodAll_mk1 (shut_bool Try.underlying4 _), (trodAll_cons_mk (Below.trod laidOut (by kernel_rfl) (of_decide_eq_true (by kernel_rfl)) h0 bel hlt0) (trodAll_cons_mk (Below.trod laidOut (by kernel_rfl) (of_decide_eq_true (by kernel_rfl)) h1 bel hlt1) (trodAll_cons_mk (Below.trod laidOut (by kernel_rfl) (of_decide_eq_true (by kernel_rfl)) h2 bel hlt2) (trodAll_cons_mk (Below.trod laidOut (by kernel_rfl) (of_decide_eq_true (by kernel_rfl)) h3 bel hlt3) (trodAll_cons_mk (Below.trod laidOut (by kernel_rfl) (of_decide_eq_true (by kernel_rfl)) h4 bel hlt4) trodAll_mk0))))), rfl, bel.frame _, fun h => by cases h⟩

theorem zoneSure_holds : Rows.ZoneSureSaid :=
  OpenClaim.holds_of_wide 5 Try.f5 rfl rfl rfl rfl rfl rfl rfl ⟨rfl, rfl, rfl, rfl, rfl⟩ rfl rfl rfl rfl rfl (by kernel_rfl) Try.func5 (by kernel_rfl)
    (of_decide_eq_true (by kernel_rfl)) (by unfold Func.isWrapper; first | (rw [if_pos (by decide +kernel)]; kernel_rfl) | (rw [if_neg (by decide +kernel)]; exact ⟨rfl, rfl⟩))
    (fun os started H enc _ => sure_lifted os started H enc)
#print axioms zoneSure_holds
end Go.Proofs.Ytmligbaalbbgiaa

/- The statement ZoneRests: for every input the law returns true, and each argument reads afterwards as it read before. Condition: the package errors has laid its variable errorType, as the statement's card says of the program's text. -/
import Derived.Test.YtmligbaalbbgiabDoorRows
import Derived.Test.YtmligbaalbbgiabDoorZoneRests1
import Derived.Test.YtmligbaalbbgiabDoorLaidE
import Derived.WalkKit
import Derived.ProofKit
import Derived.OpenShut
import Derived.ShutString
import Derived.Carry
import Derived.SliceStrings
import Derived.ChangeSlices
import Derived.ChangeOld
import Derived.Below
namespace Go.Proofs.YtmligbaalbbgiabDoor
open Go.ChangeShapes Go.WideShapes Go.ChangeAt Go.RowKit
open Go.ChangeMaps (open_string shut_string)

theorem ownNone : ownKnob Tryd.prog.godebug = none := by kernel_rfl
theorem laidOut : laidOutB Tryd.prog = true := by kernel_rfl
theorem worldE_met (os : Os) (args : Array Value) : laidMetH Tryd.prog Rows.zoneRestsRow.laid ((worldE os).forCall (fun _ _ => 0) ⟨#[], args, []⟩).memory :=
  laidMetH_of_parts (laidMet_nil _ _) (by kernel_rfl)

set_option maxRecDepth 100000 in
theorem rests_lifted (os : Os) (started : os.Started) (H : Type) (enc : TypeId × Value → H) :
    ReturnsInHanded {} Tryd.checked os 7 .any (fun w args => (Rows.zoneRestsSpec.pre enc Tryd.prog Tryd.f7 [] false w args ∧ laidMetH Tryd.prog Rows.zoneRestsRow.laid w) ∧ sizedMet enc Tryd.prog Tryd.f7 (OpenSpec.ofChange Rows.zoneRestsSpec) false w args)
      (Rows.zoneRestsSpec.post enc Tryd.prog Tryd.f7 false true false false) := by
  refine returnsInHanded_of_change_and (C := Tryd.checked) (X := fun w _ => laidMetH Tryd.prog Rows.zoneRestsRow.laid w) (fun _ _ _ hh h => h.of_heap hh) ownNone started (by kernel_rfl) Tryd.func7
    (ChangeSpec.witness_at (enc := enc) (C := Tryd.checked) (os := os) (X := fun w _ => laidMetH Tryd.prog Rows.zoneRestsRow.laid w) false (worldE os) #[.slice none 0 0, .slice none 0 0, .slice none 0 0] 8 rfl (by kernel_rfl) (by kernel_rfl) (by kernel_rfl) (by kernel_rfl) (by kernel_rfl) (worldE_met os _)) ?_
  intro W base args ds gs before hval0 hW _ _ hL _
  have hval : ∀ (j : Nat) t v, Tryd.f7.params[j]? = some t → args[j]? = some v → Value.okWide Tryd.prog W .any base t v := hval0
  have hW' := hW
  obtain ⟨p, q, hA0, hV0, rfl, hfz, hnd⟩ := hW
  have hA : DataW.TrodAll enc Tryd.prog W 0 (fun _ => true) true Tryd.f7.params.toList args.toList ds p := hA0
  have hV : DataW.TrodVars enc Tryd.prog W (fun _ => true) [] gs q := hV0
  rw [Tryd.params7] at hA hval
  obtain ⟨v0, vs0, d0, ds0, p0, q0, hargs, rfl, rfl, h0, r0⟩ := trodAll_cons hA
  obtain ⟨v1, vs1, d1, ds1, p1, q1, rfl, rfl, rfl, h1, r1⟩ := trodAll_cons r0
  obtain ⟨v2, vs2, d2, ds2, p2, q2, rfl, rfl, rfl, h2, r2⟩ := trodAll_cons r1
  obtain ⟨rfl, rfl, rfl⟩ := trodAll_nil r2
  obtain rfl : args = #[v0, v1, v2] := by cases args; simp_all
  obtain ⟨rfl, rfl⟩ : gs = [] ∧ q = [] := by
    cases gs with
    | nil => exact ⟨rfl, hV⟩
    | cons g r => exact absurd hV (by intro h; cases h)
  obtain ⟨A0, len, cap, rfl⟩ := okWide_slice Tryd.underlying22 (hval 0 22 v0 rfl rfl)
  obtain ⟨A2, len2, cap2, rfl⟩ := okWide_slice Tryd.underlying22 (hval 1 22 v1 rfl rfl)
  obtain ⟨A1, len1, cap1, rfl⟩ := okWide_slice Tryd.underlying23 (hval 2 23 v2 rfl rfl)
  have hlt0 : ∀ x ∈ p0, x.block < W.heap.size := fun x hx => hW'.lt x (by simp [hx])
  have hlt2 : ∀ x ∈ p2, x.block < W.heap.size := fun x hx => hW'.lt x (by simp [hx])
  have hlt1 : ∀ x ∈ p1, x.block < W.heap.size := fun x hx => hW'.lt x (by simp [hx])
  have hg : LaidE W := laidE_of (show laidMet Tryd.prog [] W ∧ handlesMet Tryd.prog Rows.zoneRestsRow.laid W from hL).2
  have hst : ∃ ps : List ByteArray, StrsAt W A0 len cap ps := by
    obtain ⟨fuel, hf⟩ := h0
    rcases open_strings Tryd.underlying22 Tryd.underlying9 (by kernel_rfl) hf with ⟨hcs, _⟩ | ⟨a, len', cap', ss, hcs, _, hl, _, hz, _, hcell, _⟩
    · simp [Value.cells] at hcs
      obtain ⟨rfl, rfl, rfl⟩ := hcs
      exact ⟨[], rfl, Nat.le_refl _, fun _ => ⟨rfl, rfl⟩, fun b hb => (by cases hb), fun b hb => (by cases hb)⟩
    · simp [Value.cells] at hcs
      obtain ⟨rfl, rfl, rfl⟩ := hcs
      have hlz : len ≤ ss.length := by rw [hz]; split <;> omega
      refine ⟨ss.take len, by simp; omega, hl, fun h => (by cases h), fun b hb hp => ?_, fun b hb i hi => ?_⟩
      · obtain rfl := Option.some.inj hb
        have h4 := block_lt_of_cell (hcell 0 (by simp at hp; omega))
        rwa [block_add] at h4
      · obtain rfl := Option.some.inj hb
        have hi' : i < len := by simp at hi; omega
        rw [hcell i (by omega)]
        have hs : i < ss.length := by omega
        simp [List.getD, hi', hs]
  have hst2 : ∃ ps : List ByteArray, StrsAt W A2 len2 cap2 ps := by
    obtain ⟨fuel, hf⟩ := h1
    rcases open_strings Tryd.underlying22 Tryd.underlying9 (by kernel_rfl) hf with ⟨hcs, _⟩ | ⟨a, len', cap', ss, hcs, _, hl, _, hz, _, hcell, _⟩
    · simp [Value.cells] at hcs
      obtain ⟨rfl, rfl, rfl⟩ := hcs
      exact ⟨[], rfl, Nat.le_refl _, fun _ => ⟨rfl, rfl⟩, fun b hb => (by cases hb), fun b hb => (by cases hb)⟩
    · simp [Value.cells] at hcs
      obtain ⟨rfl, rfl, rfl⟩ := hcs
      have hlz : len2 ≤ ss.length := by rw [hz]; split <;> omega
      refine ⟨ss.take len2, by simp; omega, hl, fun h => (by cases h), fun b hb hp => ?_, fun b hb i hi => ?_⟩
      · obtain rfl := Option.some.inj hb
        have h4 := block_lt_of_cell (hcell 0 (by simp at hp; omega))
        rwa [block_add] at h4
      · obtain rfl := Option.some.inj hb
        have hi' : i < len2 := by simp at hi; omega
        rw [hcell i (by omega)]
        have hs : i < ss.length := by omega
        simp [List.getD, hi', hs]
  have hnum : ∃ ks : List Int, len1 = ks.length ∧ NumsOut W (fun _ => False) A1 ks := by
    obtain ⟨fuel, hf⟩ := h2
    rcases open_ints Tryd.underlying23 Tryd.underlying3 (by kernel_rfl) hf with ⟨hcs, _⟩ | ⟨a, len', cap', zs, hcs, _, hl, _, hz, _, hcell, _⟩
    · simp [Value.cells] at hcs
      obtain ⟨rfl, rfl, rfl⟩ := hcs
      exact ⟨[], rfl, ⟨fun h => by simp at h⟩⟩
    · simp [Value.cells] at hcs
      obtain ⟨rfl, rfl, rfl⟩ := hcs
      have hlz : len1 ≤ zs.length := by rw [hz]; split <;> omega
      refine ⟨zs.take len1, by simp; omega, ⟨fun h => ⟨a, rfl, id, ?_, fun i hi => ?_⟩⟩⟩
      · have h4 := block_lt_of_cell (hcell 0 (by simp at h; omega))
        rwa [block_add] at h4
      · have hi' : i < len1 := by simp at hi; omega
        rw [hcell i (by omega)]
        have hs : i < zs.length := by omega
        simp [List.getD, hi', hs]
  obtain ⟨ps, hst⟩ := hst
  obtain ⟨ps2, hst2⟩ := hst2
  obtain ⟨ks, hks, hnum⟩ := hnum
  clear hA0 hval0 hV hV0
  refine (rests_any W A0 A2 A1 len cap len2 cap2 len1 cap1 ps ps2 ks hst hst2 hnum hks hg).mono fun e W' ⟨he, bel⟩ => ?_
  subst he
  exact ⟨_, rfl, _, _, _, [], _, [], hW', trodAll_mk1 (shut_bool Tryd.underlying4 _), (trodAll_cons_mk (Below.trod laidOut (by kernel_rfl) (of_decide_eq_true (by kernel_rfl)) h0 bel hlt0) (trodAll_cons_mk (Below.trod laidOut (by kernel_rfl) (of_decide_eq_true (by kernel_rfl)) h1 bel hlt1) (trodAll_cons_mk (Below.trod laidOut (by kernel_rfl) (of_decide_eq_true (by kernel_rfl)) h2 bel hlt2) trodAll_mk0))), rfl, bel.frame _, fun h => by cases h⟩

theorem zoneRests_row : Rows.ZoneRestsSaid :=
  OpenClaim.holds_of_wide 7 Tryd.f7 rfl rfl rfl rfl rfl rfl rfl ⟨rfl, rfl, rfl, rfl, rfl⟩ rfl rfl rfl rfl rfl (by kernel_rfl) Tryd.func7 (by kernel_rfl)
    (of_decide_eq_true (by kernel_rfl)) (by unfold Func.isWrapper; first | (rw [if_pos (by decide +kernel)]; kernel_rfl) | (rw [if_neg (by decide +kernel)]; exact ⟨rfl, rfl⟩))
    (fun os started H enc _ => rests_lifted os started H enc)
#print axioms zoneRests_row
end Go.Proofs.YtmligbaalbbgiabDoor

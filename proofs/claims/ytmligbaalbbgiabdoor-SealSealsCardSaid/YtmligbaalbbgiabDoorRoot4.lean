/- The function salternref.primes, asked for 64. No condition. -/
import Derived.Test.YtmligbaalbbgiabDoorProg
import Derived.Test.YtmligbaalbbgiabDoorBase
import Derived.Test.YtmligbaalbbgiabDoorRootP
import Derived.Test.YtmligbaalbbgiabDoorRoot2
namespace Go.Proofs.YtmligbaalbbgiabDoor
open Go.RowKit

theorem own_shape {w : World} {base size n : Nat} {e : TypeId} {v : Value} {xs : List Value} (h : w.ownsRow base e size v n xs) : ∃ a c, v = .slice a n c := by
  rcases h.2 with ⟨rfl, rfl⟩ | ⟨g, cap, _, rfl, _⟩
  · exact ⟨none, 0, rfl⟩
  · exact ⟨_, cap, rfl⟩
def iv (n : Nat) : Value := .int .i64 (n : Int)
def intsV (l : List Nat) : List Value := l.map iv
theorem intsV_append (a b : List Nat) : intsV (a ++ b) = intsV a ++ intsV b := by simp [intsV]
theorem intsV_oneCell (l : List Nat) : ∀ u ∈ intsV l, u.oneCell' = true := by
  intro u hu
  obtain ⟨c, _, rfl⟩ := List.mem_map.1 hu
  rfl
theorem int_cell {w : World} {base T g n cap : Nat} {l : List Nat} (h : w.ownsRow base T 1 (.slice (some ⟨g, 0, none⟩) n cap) n (intsV l)) (i : Nat) (hi : i < l.length) : w.cell? ⟨g, i, none⟩ = some (.int .i64 ((nth l i : Nat) : Int)) := by
  have h1 := h.cells (g := g) rfl i (.int .i64 ((nth l i : Nat) : Int)) (by
    have e : nth l i = l[i] := by simp [nth, List.getD, hi]
    rw [e]
    simp [intsV, iv, hi])
  rwa [show (⟨g, 0, none⟩ : Addr).add i = ⟨g, i, none⟩ from by unfold Addr.add; split <;> simp_all] at h1
theorem info_i64 : (Tryd.prog.info? 3).map (fun i => (i.zero, i.size, i.bytes)) = some (some (.int .i64 0), 1, 8) := by kernel_rfl
theorem Pl_310_length : (Pl 310).length = 64 := by rw [Pl_310]; exact primesL_length
theorem isP_take (l : List Nat) (k j : Nat) (h : j < l.length) : isP (l.take (j + 1)) k = (isP (l.take j) k && (k % nth l j != 0)) := by
  have e : nth l j = l[j] := by simp [nth, List.getD, h]
  unfold isP
  rw [List.take_succ_eq_append_getElem h, e, List.all_append]
  simp

theorem int_bne (k p : Nat) : (((k : Int) + 2) % (p : Int) != 0) = ((k + 2) % p != 0) := by
  have e : ((k : Int) + 2) % (p : Int) = (((k + 2) % p : Nat) : Int) := by simp
  rw [e]
  by_cases h : (k + 2) % p = 0
  · rw [h]; rfl
  · have h1 : ((((k + 2) % p : Nat) : Int) != 0) = true := by simp; omega
    have h2 : ((k + 2) % p != 0) = true := by simpa using h
    rw [h1, h2]

set_option maxRecDepth 100000 in
set_option maxHeartbeats 4000000 in
theorem primes_any (w : World) :
    Calls Tryd.prog 79 #[.int .i64 64] w fun e w' => ∃ v, e = .returned v ∧ w'.ownsRow w.heap.size 3 1 v 64 (intsV primesL) ∧ Below w.heap.size w w' := by
  obtain ⟨i0, hi0, hz0, hz1, hz2⟩ := info_parts info_i64
  go_enter Tryd.func79, Tryd.ntmps79
  go_wp2
  go_loopw [3, 4] (fun v i wr => ∃ k : Nat, i = .int .i64 ((k : Int) + 2) ∧ k ≤ 310 ∧ Below w.heap.size w wr ∧ wr.ownsRow w.heap.size 3 1 v (Pl k).length (intsV (Pl k))) (fun _ i _ => 320 - (intOf i).toNat)
  case atStart => exact ⟨0, rfl, by omega, Below.refl _ _, World.ownsRow_nil _ _ _ _⟩
  case round =>
    obtain ⟨wa, rfl⟩ : ∃ wa : World, wa = wr := ⟨_, rfl⟩
    obtain ⟨k, rfl, hk, hbel, hown⟩ := hrel
    have hle : (Pl k).length ≤ 64 := by
      have := Pl_length k (310 - k)
      rwa [show k + (310 - k) = 310 from by omega, Pl_310_length] at this
    have hsh : (Pl k).length < 64 ↔ k ≤ 309 := by
      constructor
      · intro h
        rcases Nat.lt_or_ge 309 k with h1 | h1
        · obtain rfl : k = 310 := by omega
          rw [Pl_310_length] at h
          omega
        · exact h1
      · intro h
        have := Pl_short h
        omega
    have hrg := Pl_range k
    obtain ⟨l, hl⟩ : ∃ l, l = Pl k := ⟨_, rfl⟩
    rw [← hl] at hown hle hsh hrg
    have HL := hide hl
    have HRG := hide hrg
    have HBE := hide hbel
    clear hl hrg hbel
    by_cases hlt : l.length < 64
    · have hk9 : k ≤ 309 := hsh.1 hlt
      have b0 : decide ((l.length : Int) < 64) = true := by simp; omega
      have b0' : decide (l.length < 64) = true := by simp; omega
      have HOW := hide hown
      obtain ⟨a, c, rfl⟩ := own_shape hown
      clear hown hsh
      go_wp2
      go_loopw [5, 16] (fun b j wr => ∃ J : Nat, j = .int .i64 (J : Int) ∧ J ≤ l.length ∧ b = .bool (isP (l.take J) (k + 2)) ∧ wr = wa) (fun _ j _ => 100 - (intOf j).toNat)
      case atStart => exact ⟨0, rfl, by omega, rfl, rfl⟩
      case round =>
        obtain ⟨J, rfl, hJ, rfl, rfl⟩ := hrel
        by_cases hjl : J < l.length
        · have c0 : decide (J < l.length) = true := by simpa using hjl
          obtain ⟨g, cap, hv, _, _⟩ := HOW.out.form (by omega)
          injection hv with hv1 _ hv2
          subst hv1 hv2
          have cx := int_cell HOW.out J hjl
          have HIT := hide (isP_take l (k + 2) J hjl)
          obtain ⟨p, hp⟩ : ∃ p, p = nth l J := ⟨_, rfl⟩
          have hp2 := HRG.out p (by rw [hp]; have e : nth l J = l[J] := by simp [nth, List.getD, hjl]
                                    rw [e]; exact List.getElem_mem _)
          rw [← hp] at cx HIT
          clear hp
          obtain ⟨B, hB⟩ : ∃ B, B = isP (l.take J) (k + 2) := ⟨_, rfl⟩
          rw [← hB] at HIT ⊢
          have HBB := hide hB
          clear hB
          cases B with
          | false =>
            go_wp2
            exact ⟨⟨J + 1, by go_num, by omega, by rw [HIT.out]; rfl, trivial⟩, by simp [intOf]; omega⟩
          | true =>
            go_wp2
            refine ⟨⟨J + 1, by go_num, by omega, ?_, trivial⟩, by simp [intOf]; omega⟩
            rw [HIT.out, Bool.true_and, int_bne k p]
        · obtain rfl : J = l.length := by omega
          have c0 : decide (l.length < l.length) = false := by simp
          rw [List.take_length]
          have hk1 : Hid (Pl (k + 1) = if isP l (k + 2) then l ++ [k + 2] else l) := hide (by rw [Pl_succ, ← HL.out]; rfl)
          obtain ⟨B, hB⟩ : ∃ B, B = isP l (k + 2) := ⟨_, rfl⟩
          rw [← hB] at hk1 ⊢
          clear hB
          cases B with
          | false =>
            go_wp2
            refine ⟨⟨k + 1, by go_num, by omega, HBE.out, ?_⟩, by simp [intOf]; omega⟩
            rw [hk1.out]
            exact HOW.out
          | true =>
            have e1 : Hid (intsV [k + 2] = [Value.int .i64 ((k : Int) + 2)]) := hide (by simp [intsV, iv])
            go_wp2_with (at_builtin; refine wpList_append_lies _ rfl (.tmp 29) (.tmp 31) 23 rfl w.heap.size 3 i0 (.int .i64 0) 1 8 Tryd.underlying23 hi0 hz0 hz1 hz2 rfl (by decide) _ _ _ rfl (HOW.out.alloc _) ⟨wr.heap.size, 0, none⟩ 1 1 [Value.int .i64 ((k : Int) + 2)] rfl rfl (news_new wr _ _) (by rw [← e1.out]; exact intsV_oneCell _) (by decide) (by unfold maxLen; omega) (by omega) (by have := HBE.out.size; simp; omega) (wr.heap.size + 1) (by simp) ?_; intro gv cv w4 hr4 hg4 _ _; rw [← e1.out, ← intsV_append] at hr4)
            have hb4 : Below w.heap.size w w4 := (HBE.out.alloc HBE.out.size _).grown hg4 (by have := HBE.out.size; simp; omega) (fun q hq => (HOW.out.lt q hq).1)
            have HR4 := hide hr4
            clear hr4 hg4
            refine ⟨⟨k + 1, by go_num, by omega, hb4, ?_⟩, by simp [intOf]; omega⟩
            rw [hk1.out]
            simpa using HR4.out
    · have b0 : decide ((l.length : Int) < 64) = false := by simp; omega
      have b0' : decide (l.length < 64) = false := by simp; omega
      have h64 : l.length = 64 := by omega
      have hk310 : k = 310 := by
        have h1 : ¬ k ≤ 309 := fun h => hlt (hsh.2 h)
        omega
      have HP : Hid (l = primesL) := hide (by rw [HL.out, hk310, Pl_310])
      clear hsh hk310
      obtain ⟨a, c, rfl⟩ := own_shape hown
      have HOW := hide hown
      clear hown
      go_wp2
      go_ret
      refine ⟨_, rfl, ?_, HBE.out⟩
      rw [← HP.out, ← h64]
      exact HOW.out
end Go.Proofs.YtmligbaalbbgiabDoor

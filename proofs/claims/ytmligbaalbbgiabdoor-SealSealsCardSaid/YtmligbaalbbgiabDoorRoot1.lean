/- The function salternref.times. Conditions: at most 16 digits of 2^16, at least one; a factor of at most 2^40. -/
import Derived.Test.YtmligbaalbbgiabDoorProg
import Derived.Test.YtmligbaalbbgiabDoorBase
import Derived.Test.YtmligbaalbbgiabDoorRootS
import Derived.RangeFuncBox
namespace Go.Proofs.YtmligbaalbbgiabDoor
open Go.RowKit

def nv (n : Nat) : Value := .int .u64 (n : Int)
def numsV (l : List Nat) : List Value := l.map nv
theorem numsV_append (a b : List Nat) : numsV (a ++ b) = numsV a ++ numsV b := by simp [numsV]
theorem numsV_oneCell (l : List Nat) : ∀ u ∈ numsV l, u.oneCell' = true := by
  intro u hu
  obtain ⟨c, _, rfl⟩ := List.mem_map.1 hu
  rfl
/-- Block g begins with these numbers. -/
def NRow (w : World) (g : Nat) (l : List Nat) : Prop := ∀ i, i < l.length → w.cell? ⟨g, i, none⟩ = some (.int .u64 ((nth l i : Nat) : Int))
theorem NRow.of_block {w w' : World} {g : Nat} {l : List Nat} (h : NRow w g l) (hb : w'.heap[g]? = w.heap[g]?) : NRow w' g l :=
  fun i hi => (World.cell?_of_block (w := w) (w' := w') (a := ⟨g, i, none⟩) hb).trans (h i hi)
theorem NRow.lt {w : World} {g : Nat} {l : List Nat} (h : NRow w g l) (hl : 0 < l.length) : g < w.heap.size := block_lt_of_cell (h 0 hl)
theorem NRow.of_own {w : World} {base T g n cap : Nat} {l : List Nat} (h : w.ownsRow base T 1 (.slice (some ⟨g, 0, none⟩) n cap) n (numsV l)) : NRow w g l := by
  intro i hi
  have h1 := h.cells (g := g) rfl i (.int .u64 ((nth l i : Nat) : Int)) (by
    have e : nth l i = l[i] := by simp [nth, List.getD, hi]
    rw [e]
    simp [numsV, nv, hi])
  rwa [show (⟨g, 0, none⟩ : Addr).add i = ⟨g, i, none⟩ from by unfold Addr.add; split <;> simp_all] at h1
theorem info_u64 : (Tryd.prog.info? 128).map (fun i => (i.zero, i.size, i.bytes)) = some (some (.int .u64 0), 1, 8) := by kernel_rfl
theorem val_take (l : List Nat) (i : Nat) (h : i < l.length) : val (l.take (i + 1)) = val (l.take i) + 65536 ^ i * nth l i := by
  have e : nth l i = l[i] := by simp [nth, List.getD, h]
  rw [List.take_succ_eq_append_getElem h, val_append, List.length_take, Nat.min_eq_left (by omega), e]
  simp [val]

set_option maxRecDepth 100000 in
set_option maxHeartbeats 2000000 in
theorem times_any (g cap : Nat) (l : List Nat) (x : Nat) (hl0 : 0 < l.length) (hl : l.length ≤ 16) (hd : Digits l) (hx : x ≤ 1099511627776) (w : World) (hR : NRow w g l) :
    Calls Tryd.prog 151 #[.slice (some ⟨g, 0, none⟩) l.length cap, .int .u64 (x : Int)] w fun e w' => ∃ v o, e = .returned v ∧ w'.ownsRow w.heap.size 128 1 v o.length (numsV o) ∧ val o = val l * x ∧ Digits o ∧ l.length ≤ o.length ∧ o.length ≤ l.length + 3 ∧ Below w.heap.size w w' := by
  obtain ⟨i0, hi0, hz0, hz1, hz2⟩ := info_parts info_u64
  have HGL := hide (hR.lt hl0)
  have HR := hide hR
  have HD := hide hd
  clear hR hd
  go_enter Tryd.func151, Tryd.ntmps151
  go_wp2
  go_loopw [5, 6, 7] (fun v c i wr => ∃ (o : List Nat) (C : Nat), c = .int .u64 (C : Int) ∧ i = .int .i64 ((o.length : Nat) : Int) ∧ ((o.length ≤ l.length ∧ C ≤ x) ∨ (l.length ≤ o.length ∧ o.length ≤ l.length + 3 ∧ C * 65536 ^ (o.length - l.length) ≤ x)) ∧ val o + C * 65536 ^ o.length = val (l.take o.length) * x ∧ Digits o
      ∧ Below w.heap.size w wr ∧ wr.ownsRow w.heap.size 128 1 v o.length (numsV o)) (fun _ c i _ => (16 - (intOf i).toNat) * 4398046511104 + (intOf c).toNat)
  case atStart => exact ⟨[], 0, rfl, rfl, .inl ⟨by simp, by omega⟩, by simp [val], (fun d hd => by cases hd), Below.refl _ _, World.ownsRow_nil _ _ _ _⟩
  case round =>
    obtain ⟨wa, rfl⟩ : ∃ wa : World, wa = wr := ⟨_, rfl⟩
    obtain ⟨o, C, rfl, rfl, hc, hval, hdo, hbel, hown⟩ := hrel
    obtain ⟨I, hI⟩ : ∃ I, I = o.length := ⟨_, rfl⟩
    rw [← hI] at hc hval hown ⊢
    have HI := hide hI
    have HV := hide hval
    have HDO := hide hdo
    have HBE := hide hbel
    clear hI hval hdo hbel
    have hCx : C ≤ x := by
      rcases hc with h | h
      · exact h.2
      · exact Nat.le_trans (Nat.le_mul_of_pos_right C (Nat.pow_pos (by omega))) h.2.2
    have hC : C ≤ 1099511627776 := by omega
    have hIl : I ≤ 19 := by omega
    by_cases hin : I < l.length
    · have b0 : decide (I < l.length) = true := by simpa using hin
      have cx := (HBE.out.cell (p := ⟨g, I, none⟩) HGL.out).trans (HR.out I hin)
      obtain ⟨d, hd⟩ : ∃ d, d = nth l I := ⟨_, rfl⟩
      have hdl : d < 65536 := by rw [hd]; have e : nth l I = l[I] := by simp [nth, List.getD, hin]
                                 rw [e]; exact HD.out _ (List.getElem_mem _)
      rw [← hd] at cx
      have hdx : d * x ≤ 65535 * 1099511627776 := Nat.mul_le_mul (by omega) hx
      have HDD := hide hd
      clear hd
      have e1 : numsV [(C + d * x) % 65536] = [Value.int .u64 (((C : Int) + (d : Int) * (x : Int)) % 65536)] := by simp [numsV, nv]
      have E1 := hide e1
      clear e1
      go_wp2_with (at_builtin; go_loud (refine wpList_append_own _ rfl (.tmp 32) (.tmp 35) 210 rfl w.heap.size 128 i0 (.int .u64 0) 1 8 Tryd.underlying210 hi0 hz0 hz1 hz2 rfl (by decide) _ _ _ rfl (hown.alloc _) ⟨wa.heap.size, 0, none⟩ 1 1 [Value.int .u64 (((C : Int) + (d : Int) * (x : Int)) % 65536)] rfl rfl (news_new wa _ _) (by rw [← E1.out]; exact numsV_oneCell _) (by unfold maxLen; omega) (by omega) (by have := HBE.out.size; simp; omega) ?_; intro v4 w4 hr4 hg4 _; rw [← E1.out, ← numsV_append] at hr4))
      have hb4 : Below w.heap.size w w4 := (HBE.out.alloc HBE.out.size _).grown hg4 (by have := HBE.out.size; simp; omega) (fun q hq => (hown.lt q hq).1)
      have HR4 := hide hr4
      clear hr4 hg4 hown
      have hle : (o ++ [(C + d * x) % 65536]).length = I + 1 := by rw [List.length_append, ← HI.out]; rfl
      have hq : (C + d * x) / 65536 ≤ x := by
        have h1 : d * x ≤ 65535 * x := Nat.mul_le_mul_right x (by omega)
        omega
      refine ⟨⟨o ++ [(C + d * x) % 65536], (C + d * x) / 65536, ?_, ?_, ?_, ?_, ?_, hb4, ?_⟩, ?_⟩
      · simp
      · rw [hle]; go_num
      · rw [hle]; left; omega
      · rw [hle, val_append, ← HI.out, val_take l I hin, Nat.add_mul, ← HV.out, ← HDD.out]
        simp only [val, Nat.mul_zero, Nat.add_zero, Nat.pow_succ]
        have h2 := Nat.div_add_mod (C + d * x) 65536
        generalize (C + d * x) / 65536 = q at *
        generalize (C + d * x) % 65536 = r at *
        generalize 65536 ^ I = P at *
        have h3 : P * r + q * (P * 65536) = P * (65536 * q + r) := by
          rw [Nat.mul_add, Nat.add_comm, Nat.mul_comm q, Nat.mul_assoc]
        rw [Nat.add_assoc, h3, h2, Nat.mul_add, Nat.mul_comm P C, Nat.mul_assoc, Nat.add_assoc]
      · intro y hy
        rcases List.mem_append.1 hy with h | h
        · exact HDO.out y h
        · rw [List.mem_singleton.1 h]; exact Nat.mod_lt _ (by omega)
      · rw [hle]; exact HR4.out
      · simp [intOf]; omega
    · have b0 : decide (I < l.length) = false := by simpa using hin
      have hIC : l.length ≤ I ∧ I ≤ l.length + 3 ∧ C * 65536 ^ (I - l.length) ≤ x := by
        rcases hc with h | h
        · have e : I = l.length := by omega
          rw [e]
          simp
          omega
        · exact h
      have htk : l.take I = l := List.take_of_length_le hIC.1
      rw [htk] at HV
      by_cases hC0 : C = 0
      · have b1 : decide (0 < C) = false := by simp; omega
        have HOW := hide hown
        clear hown
        go_wp2_with fail
        go_ret
        refine ⟨_, o, rfl, by rw [← HI.out]; exact HOW.out, ?_, HDO.out, by rw [← HI.out]; exact hIC.1, by rw [← HI.out]; exact hIC.2.1, HBE.out⟩
        have := HV.out
        rw [hC0] at this
        simpa using this
      · have b1 : decide (0 < C) = true := by simp; omega
        have e1 : numsV [C % 65536] = [Value.int .u64 ((C : Int) % 65536)] := by simp [numsV, nv]
        have E1 := hide e1
        clear e1
        go_wp2_with (at_builtin; go_loud (refine wpList_append_own _ rfl (.tmp 32) (.tmp 35) 210 rfl w.heap.size 128 i0 (.int .u64 0) 1 8 Tryd.underlying210 hi0 hz0 hz1 hz2 rfl (by decide) _ _ _ rfl (hown.alloc _) ⟨wa.heap.size, 0, none⟩ 1 1 [Value.int .u64 ((C : Int) % 65536)] rfl rfl (news_new wa _ _) (by rw [← E1.out]; exact numsV_oneCell _) (by unfold maxLen; omega) (by omega) (by have := HBE.out.size; simp; omega) ?_; intro v4 w4 hr4 hg4 _; rw [← E1.out, ← numsV_append] at hr4))
        have hb4 : Below w.heap.size w w4 := (HBE.out.alloc HBE.out.size _).grown hg4 (by have := HBE.out.size; simp; omega) (fun q hq => (hown.lt q hq).1)
        have HR4 := hide hr4
        clear hr4 hg4 hown
        have hle : (o ++ [C % 65536]).length = I + 1 := by rw [List.length_append, ← HI.out]; rfl
        refine ⟨⟨o ++ [C % 65536], C / 65536, ?_, ?_, ?_, ?_, ?_, hb4, ?_⟩, ?_⟩
        · simp
        · rw [hle]; go_num
        · rw [hle]
          right
          have h5 := hIC.2.2
          have h6 : I - l.length ≠ 3 := by
            intro e
            rw [e] at h5
            omega
          refine ⟨by omega, by omega, ?_⟩
          rw [show I + 1 - l.length = (I - l.length) + 1 from by omega, Nat.pow_succ]
          refine Nat.le_trans ?_ h5
          have h7 := Nat.div_mul_le_self C 65536
          calc C / 65536 * (65536 ^ (I - l.length) * 65536) = (C / 65536 * 65536) * 65536 ^ (I - l.length) := by
                rw [Nat.mul_comm (65536 ^ (I - l.length)), Nat.mul_assoc]
            _ ≤ C * 65536 ^ (I - l.length) := Nat.mul_le_mul_right _ h7
        · rw [hle, val_append, ← HI.out, List.take_of_length_le (by omega), ← HV.out]
          simp only [val, Nat.mul_zero, Nat.add_zero, Nat.pow_succ]
          have h2 := Nat.div_add_mod C 65536
          generalize C / 65536 = q at *
          generalize C % 65536 = r at *
          generalize 65536 ^ I = P at *
          have h3 : P * r + q * (P * 65536) = P * (65536 * q + r) := by
            rw [Nat.mul_add, Nat.add_comm, Nat.mul_comm q, Nat.mul_assoc]
          rw [Nat.add_assoc, h3, h2, Nat.mul_comm P C]
        · intro y hy
          rcases List.mem_append.1 hy with h | h
          · exact HDO.out y h
          · rw [List.mem_singleton.1 h]; exact Nat.mod_lt _ (by omega)
        · rw [hle]; exact HR4.out
        · simp [intOf]; omega
end Go.Proofs.YtmligbaalbbgiabDoor

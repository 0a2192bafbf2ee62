/- The function meter.Key. Conditions: a secret of at most 4096 bytes; the variable sum.rounds holds its numbers. -/
import Derived.Test.YtmligbaalbbgiaaDoorProg
import Derived.Test.YtmligbaalbbgiaaDoorBase
import Derived.Test.YtmligbaalbbgiaaDoorSum5
import Derived.Test.YtmligbaalbbgiaaDoorMeter1
namespace Go.Proofs.YtmligbaalbbgiaaDoor
open Go.RowKit

/-- A secret's key for a word. -/
def keyB (s word : ByteArray) : ByteArray := ofl (sumBy kS h0S ((sumBy kS h0S (markT 107 [s, word] 2)).take 16))
/-- What comes of a secret and a use: the key, and an error's number. -/
def keyR (s : ByteArray) (word : ByteArray) (ok : Bool) : ByteArray × Nat := if s.size = 16 then (if ok then (keyB s word, 0) else ({ data := #[] }, 8)) else ({ data := #[] }, 1)
def errV (n : Nat) : Value := if n = 0 then .nilIface else .iface 31 (.int .i64 (n : Int))
theorem strCells_two (w : World) (a b : ByteArray) (t : Nat) : StrCells (w.alloc (.cells #[.string a, .string b] t)) ⟨w.heap.size, 0, none⟩ [a, b] := by
  intro i hi
  have h := heap_alloc_new w (.cells #[.string a, .string b] t)
  have : i = 0 ∨ i = 1 := by simp at hi; omega
  rw [show (⟨w.heap.size, 0, none⟩ : Addr).add i = ⟨w.heap.size, i, none⟩ from by unfold Addr.add; split <;> simp_all]
  rcases this with rfl | rfl
  · rw [cell_of_row _ _ _ _ t (0, 0) h]; rfl
  · rw [cell_of_row _ _ _ _ t (0, 0) h]; rfl

set_option maxRecDepth 100000 in
set_option maxHeartbeats 2000000 in
theorem meterkey_core (s : ByteArray) (hs : s.size ≤ 4096) (k : Nat) (word : ByteArray) (hwd : word.size ≤ 6) (ok : Bool) (hu : useV (k : Int) = (.agg #[.string word], ok)) (w : World) (hR : LaidR w) :
    Calls Tryd.prog 26 #[.string s, .int .u8 (k : Int)] w fun e w' => e = .returned (.tuple #[.string (keyR s word ok).1, errV (keyR s word ok).2]) ∧ Below w.heap.size w w' := by
  have HR := hide hR
  have HU := hide hu
  have HP : Hid (∀ p ∈ [s, word], p.size ≤ 4096) := hide (by
    intro p hp
    simp only [List.mem_cons, List.not_mem_nil, or_false] at hp
    rcases hp with rfl | rfl <;> omega)
  clear hR hu
  obtain ⟨K, hK⟩ : ∃ K, K = keyR s word ok := ⟨_, rfl⟩
  rw [← hK]
  have HK := hide hK
  clear hK
  go_enter Tryd.func26, Tryd.ntmps26
  go_upto_region 2 with (go_at_call 49; refine (uses_any _).mono ?_; rintro e w1 ⟨rfl, hg, hb⟩; have hlk := map_get (k : Int) _ w1 hg; rw [HU.out] at hlk; have HB := hide hb; clear hb hg)
  have cw : (w1.alloc (.cells #[.string word] 87)).cell? ⟨w1.heap.size, 0, none⟩ = some (.string word) := by
    rw [cell_of_row _ _ _ _ _ (0, 0) (heap_alloc_new w1 _)]; rfl
  have HB2 : Hid (Below w.heap.size w (w1.alloc (.cells #[.string word] 87))) := hide (HB.out.alloc HB.out.size _)
  obtain ⟨b, hb⟩ : ∃ b, b = w1.heap.size := ⟨_, rfl⟩
  obtain ⟨w2, hw2⟩ : ∃ w2, w2 = w1.alloc (.cells #[.string word] 87) := ⟨_, rfl⟩
  rw [← hw2] at cw HB2 ⊢
  rw [← hb] at cw ⊢
  have HR2 : Hid (LaidR w2) := hide (HR.out.of_block (HB2.out.block _ HR.out.lt))
  clear hb hw2 hlk HB
  by_cases h16 : s.size = 16
  · have c0 : ((s.size : Int) != 16) = false := by simp; omega
    have c0' : (s.size != 16) = false := by simp; omega
    cases ok with
    | false =>
      have e : Hid (K = ({ data := #[] }, 8)) := hide (by rw [HK.out]; simp [keyR, h16])
      go_wp2_with fail
      go_ret2
      exact ⟨by rw [e.out]; rfl, HB2.out⟩
    | true =>
      have e : Hid (K = (keyB s word, 0)) := hide (by rw [HK.out]; simp [keyR, h16])
      obtain ⟨M, hM⟩ : ∃ M, M = ofl ((sumBy kS h0S (markT 107 [s, word] 2)).take 16) := ⟨_, rfl⟩
      have hMl : M.size ≤ 16 := by rw [hM, ofl_size, List.length_take]; omega
      have HM := hide hM
      clear hM
      have HSC := hide (strCells_two w2 s word 9)
      have HR3 : Hid (LaidR (w2.alloc (.cells #[.string s, .string word] 9))) := hide (HR2.out.of_block (Below.heap_alloc _ _ _ HR2.out.lt))
      have HB3 : Hid (Below w.heap.size w (w2.alloc (.cells #[.string s, .string word] 9))) := hide (HB2.out.alloc HB2.out.size _)
      go_wp2_with (first
        | (go_at_call 15; go_loud (refine (mark_any 107 [s, word] (by simp) HP.out _ _ _ HR3.out (by simp) HSC.out).mono ?_; rintro e1 w3 ⟨rfl, hb3⟩; have HR4 := hide (HR3.out.of_block (hb3.block _ HR3.out.lt)); have HB4 := hide (below_step HB3.out hb3); clear hb3; rw [show ofl ((sumBy kS h0S (markT 107 [s, word] [s, word].length)).take 16) = M from HM.out.symm]))
        | (go_at_call 14; go_loud (refine (sum_any M (by omega) _ HR4.out).mono ?_; rintro e1 w4 ⟨rfl, hb4⟩; have HB5 := hide (below_step HB4.out hb4); clear hb4)))
      go_ret2
      refine ⟨?_, HB5.out⟩
      rw [e.out, HM.out]
      rfl
  · have c0 : ((s.size : Int) != 16) = true := by simp; omega
    have c0' : (s.size != 16) = true := by simp; omega
    have e : Hid (K = ({ data := #[] }, 1)) := hide (by rw [HK.out]; simp [keyR, h16])
    go_wp2_with fail
    go_ret2
    exact ⟨by rw [e.out]; rfl, HB2.out⟩
end Go.Proofs.YtmligbaalbbgiaaDoor

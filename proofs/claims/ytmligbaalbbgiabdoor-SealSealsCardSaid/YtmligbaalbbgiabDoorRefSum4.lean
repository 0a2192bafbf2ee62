/- The reference's Mark. Conditions: the parts lie in a slice, at most ten of at most 4096 bytes each; the reference's block holds its numbers. -/
import Derived.Test.YtmligbaalbbgiabDoorProg
import Derived.Test.YtmligbaalbbgiabDoorBase
import Derived.Test.YtmligbaalbbgiabDoorShaT
import Derived.Test.YtmligbaalbbgiabDoorSum5
import Derived.Test.YtmligbaalbbgiabDoorRefSum2
import Derived.Test.YtmligbaalbbgiabDoorRefSum3
namespace Go.Proofs.YtmligbaalbbgiabDoor
open Go.RowKit

set_option maxRecDepth 100000 in
set_option maxHeartbeats 2000000 in
theorem refmark_any (kind : UInt8) (ps : List ByteArray) (h10 : ps.length ≤ 10) (hp : ∀ p ∈ ps, p.size ≤ 4096) (a : Addr) (c r : Nat) (w : World) (hR : Blk w r 125 (words (h0S ++ kS))) (hg : a.block < w.heap.size) (hc : StrCells w a ps) :
    Calls Tryd.prog 82 #[.pointer (some ⟨r, 0, none⟩), .int .u8 (kind.toNat : Int), .slice (some a) ps.length c] w fun e w' => e = .returned (.string (ofl ((sumBy kS h0S (markT kind ps ps.length)).take 16))) ∧ Below w.heap.size w w' := by
  have HR := hide hR
  have HC := hide hc
  have HP := hide hp
  have HGl := hide hg
  have hcv := run_string_one (P := Tryd.prog) w 111 9 5 kind.toNat Tryd.underlying111 Tryd.underlying5 Tryd.underlying9
  have HB : Hid (Below w.heap.size w (w.alloc (.cells #[.int .u8 (kind.toNat : Int)] 5))) := hide ((Below.refl _ _).alloc (Nat.le_refl _) _)
  clear hR hc hp hg
  go_enter Tryd.func82, Tryd.ntmps82
  go_wp2
  rw [show ofl [kind] = ofl (markT kind ps 0) from rfl]
  clear hcv
  go_loopw [7, 15] (fun t i wr => ∃ k : Nat, k ≤ ps.length ∧ i = .int .i64 (k : Int) ∧ t = .string (ofl (markT kind ps k)) ∧ Below w.heap.size w wr) (fun _ i _ => ps.length - (intOf i).toNat)
  case atStart => exact ⟨0, by omega, rfl, rfl, HB.out⟩
  case round =>
    clear HB
    obtain ⟨wa, rfl⟩ : ∃ wa : World, wa = wr := ⟨_, rfl⟩
    obtain ⟨k, hk, rfl, rfl, hbel⟩ := hrel
    have hml := markT_length kind ps HP.out k hk
    obtain ⟨t, ht⟩ : ∃ t, t = ofl (markT kind ps k) := ⟨_, rfl⟩
    have htl : t.size = (markT kind ps k).length := by rw [ht, ofl_size]
    rw [← ht]
    have HT := hide ht
    have HTL := hide htl
    have ht1 : t.size ≤ 41041 := by omega
    have HBE := hide hbel
    clear ht htl hbel hml
    by_cases hlt : k < ps.length
    · obtain ⟨p, hpd⟩ : ∃ p, p = ps.getD k ⟨#[]⟩ := ⟨_, rfl⟩
      have cx := (HBE.out.cell (p := a.add k) (by rw [Go.ChangeShapes.block_add]; exact HGl.out)).trans (HC.out k hlt)
      rw [← hpd] at cx
      have hp1 : p.size ≤ 4096 := by
        rw [hpd]
        have : ps.getD k ⟨#[]⟩ = ps[k] := by simp [List.getD, List.getElem?_eq_getElem hlt]
        rw [this]
        exact HP.out _ (List.getElem_mem _)
      have HPD := hide hpd
      obtain ⟨b, hb⟩ : ∃ b, b = ofl (be8U p.size 8) := ⟨_, rfl⟩
      have hbl : b.size = 8 := by rw [hb, ofl_size, be8U_length]
      have hbl1 : b.size ≤ 8 := by omega
      have HBD := hide hb
      have c0 : decide (k < ps.length) = true := by simpa using hlt
      have htb : (t ++ b).size ≤ 41049 := by rw [ByteArray.size_append]; omega
      clear hpd hb
      go_wp2_with (go_at_call 83; refine (refnum_any _ _).mono ?_; rintro e w1 ⟨rfl, hb1⟩; rw [show (((p.size : Nat) : Int) % 18446744073709551616).toNat = p.size from by omega, ← HBD.out]; have HB1 := hide (below_step HBE.out hb1); clear hb1)
      refine ⟨⟨k + 1, by omega, by go_num, ?_, HB1.out⟩, by simp [intOf]; omega⟩
      have e : t ++ (b ++ p) = ofl (markT kind ps (k + 1)) := by
        apply bl_inj
        rw [markT, ← HPD.out, bl_ofl, HT.out, HBD.out]
        simp [bl, ofl]
      first | rw [e] | rw [ByteArray.append_assoc, e]
    · obtain rfl : k = ps.length := by omega
      have c0 : decide (ps.length < ps.length) = false := by simp
      have hR1 : Hid (Blk wa r 125 (words (h0S ++ kS))) := hide (HR.out.below HBE.out HR.out.lt)
      obtain ⟨S, hS⟩ : ∃ S, S = ofl (sumBy kS h0S (bl t)) := ⟨_, rfl⟩
      have hSl : S.size = 32 := by rw [hS, ofl_size, sumBy_length]
      have hS1 : 32 ≤ S.size := by omega
      have HS := hide hS
      clear hS
      go_wp2_with (go_at_call 129; refine (refsum_any t (by omega) r _ hR1.out).mono ?_; rintro e w1 ⟨rfl, hb1⟩; rw [← HS.out]; have HB1 := hide (below_step HBE.out hb1); clear hb1)
      go_ret
      refine ⟨?_, HB1.out⟩
      show Ending.returned (Value.string (S.extract 0 16)) = _
      have e : S.extract 0 16 = ofl ((sumBy kS h0S (markT kind ps ps.length)).take 16) := by
        apply bl_inj
        rw [bl_extract, HS.out, HT.out, bl_ofl, bl_ofl, bl_ofl]
        rfl
      rw [e]
end Go.Proofs.YtmligbaalbbgiabDoor

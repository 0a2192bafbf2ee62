/- The function stream.Xor. -/
import Derived.Test.YtmligbaalbbgiabDoorProg
import Derived.Test.YtmligbaalbbgiabDoorBase
import Derived.Test.YtmligbaalbbgiabDoorStream3
import Derived.Test.YtmligbaalbbgiabDoorStream4
import Derived.Laws.IdiomStrings
namespace Go.Proofs.YtmligbaalbbgiabDoor
open Go.RowKit

theorem Block_int (key nonce : ByteArray) (n : Int) (hk : key.size = 32) (hn : nonce.size = 12) (h0 : 0 ≤ n) (h1 : n < 4294967296) (w : World) :
    Calls Tryd.prog 127 #[.string key, .int .i64 n, .string nonce] w fun e w' => e = .returned (.tuple #[.string (ofl (block64 (bl key) (bl nonce) n.toNat)), .nilIface]) ∧ Below w.heap.size w w' := by
  obtain ⟨n, rfl⟩ := Int.eq_ofNat_of_zero_le h0
  exact Block_good key nonce n hk hn (by omega) w

/-- []byte(s): the new row. -/
theorem byteRow_new (w : World) (s : ByteArray) (e : Nat) (cap : Nat) : ByteRow (w.alloc (.cells (bytesRow s cap) e ((bytesRow s cap).size, (bytesRow s cap).size + 1))) w.heap.size e (bl s) := by
  have hg := heap_alloc_new w (.cells (bytesRow s cap) e ((bytesRow s cap).size, (bytesRow s cap).size + 1))
  have hl : (bl s).length = s.data.size := by rw [bl_length]; rfl
  refine ⟨fun i hi => ?_, fun i hi => ?_⟩
  · rw [cell_of_row _ _ i _ _ _ hg]
    have hi' : i < s.data.size := by rw [← hl]; exact hi
    simp only [bytesRow]
    rw [Array.getElem?_append_left (by simpa using hi'), Array.getElem?_map, Array.getElem?_eq_getElem hi']
    rw [byteAt_bl s i hi']
    rfl
  · simp only [World.frozen?, hg]
    have : i < (bytesRow s cap).size := by simp only [bytesRow, Array.size_append, Array.size_map]; omega
    simp; omega

set_option maxRecDepth 100000 in
set_option maxHeartbeats 4000000 in
theorem Xor_good (key nonce s : ByteArray) (hk : key.size = 32) (hn : nonce.size = 12) (hs : s.size ≤ 65536) (w : World) :
    Calls Tryd.prog 77 #[.string key, .string nonce, .string s] w fun e w' => e = .returned (.tuple #[.string (ofl (xorS (bl key) (bl nonce) (bl s))), .nilIface]) ∧ Below w.heap.size w w' := by
  have HK := hide hk
  have HN := hide hn
  clear hk hn
  have hcv := run_bytes_of_string (P := Tryd.prog) w 9 111 5 s Tryd.underlying9 Tryd.underlying111 Tryd.underlying5
  go_enter Tryd.func77, Tryd.ntmps77
  go_wp2
  have hR := (byteRow_new w s 5 (grownCap w s.size 0 5)).drewN 1
  have hB1 : Below w.heap.size w ((w.alloc (.cells (bytesRow s (grownCap w s.size 0 5)) 5 ((bytesRow s (grownCap w s.size 0 5)).size, (bytesRow s (grownCap w s.size 0 5)).size + 1))).drewN 1) := below_drewN ((Below.refl _ _).alloc (Nat.le_refl _) _) 1
  have hS1 : w.heap.size + 1 = ((w.alloc (.cells (bytesRow s (grownCap w s.size 0 5)) 5 ((bytesRow s (grownCap w s.size 0 5)).size, (bytesRow s (grownCap w s.size 0 5)).size + 1))).drewN 1).heap.size := by simp
  clear hcv
  obtain ⟨W1, hW1⟩ : ∃ W1, W1 = (w.alloc (.cells (bytesRow s (grownCap w s.size 0 5)) 5 ((bytesRow s (grownCap w s.size 0 5)).size, (bytesRow s (grownCap w s.size 0 5)).size + 1))).drewN 1 := ⟨_, rfl⟩
  rw [← hW1] at hR hB1 hS1
  rw [show ((w.alloc (.cells (bytesRow s (grownCap w s.size 0 5)) 5 ((bytesRow s (grownCap w s.size 0 5)).size, (bytesRow s (grownCap w s.size 0 5)).size + 1))).drew) = W1 from hW1.symm]
  clear hW1
  generalize grownCap w s.size 0 5 = C
  obtain ⟨G, hG⟩ : ∃ G, G = w.heap.size := ⟨_, rfl⟩
  rw [← hG] at hR hB1 hS1 ⊢
  have HG := hide hG
  have HB1 := hide hB1
  have HS1 := hide hS1
  have HR := hide hR
  clear hG hB1 hS1 hR
  have hxl := fun p => xorUpto_length (bl key) (bl nonce) (bl s) p
  rw [bl_length] at hxl
  have HXL := hide hxl
  clear hxl
  go_loopw [9] (fun i wr => ∃ m : Nat, i = .int .i64 ((64 * m : Nat) : Int) ∧ 64 * m ≤ s.size + 64 ∧ ByteRow wr G 5 (xorUpto (bl key) (bl nonce) (bl s) (64 * m)) ∧ Below G w wr ∧ G + 1 ≤ wr.heap.size) (fun i _ => s.size + 64 - (intOf i).toNat)
  case atStart => exact ⟨0, rfl, by omega, by rw [xorUpto_zero]; exact HR.out, HB1.out, by rw [HS1.out]; exact Nat.le_refl _⟩
  case round =>
    clear HR HB1 HS1
    obtain ⟨m, rfl, hm, hrow, hbel, hsz⟩ := hrel
    obtain ⟨I, hI⟩ : ∃ I, I = 64 * m := ⟨_, rfl⟩
    rw [← hI] at hm hrow ⊢
    have hdiv : I / 64 = m := by omega
    have HI := hide hI
    have HD := hide hdiv
    clear hI hdiv
    obtain ⟨t, ht⟩ : ∃ t, t = ofl (block64 (bl key) (bl nonce) (1 + (I : Int) / 64).toNat) := ⟨_, rfl⟩
    have htl : t.size = 64 := by rw [ht, ofl_size, block64_length]
    have htb : bl t = block64 (bl key) (bl nonce) (1 + m) := by rw [ht, bl_ofl, show (1 + (I : Int) / 64).toNat = 1 + m from by have := HD.out; omega]
    have ht1 : t.size ≤ 64 := by omega
    have ht2 : 64 ≤ t.size := by omega
    have HT := hide ht
    have HTB := hide htb
    clear ht htl htb
    by_cases hgo : I < s.size ∨ I = 0
    · have hp : (I < s.size ∧ decide (I < s.size) = true) ∨ (s.size ≤ I ∧ I ≤ 0 ∧ decide (I < s.size) = false ∧ ((I : Int) == 0) = true) := by
        by_cases h : I < s.size
        · left; exact ⟨h, by simpa using h⟩
        · right; refine ⟨by omega, by omega, by simpa using h, ?_⟩
          simp; omega
      clear hgo
      rcases hp with ⟨hlt, hp⟩ | ⟨hlt, hI0, hp, hq⟩
      all_goals
        go_wp2_with (go_at_call 127; refine (Block_int key nonce _ HK.out HN.out (by omega) (by omega) _).mono ?_; rintro e w1 ⟨rfl, hb1⟩; rw [← HT.out])
        have hrow1 : ByteRow w1 G 5 (xorUpto (bl key) (bl nonce) (bl s) I) := hrow.below (hb1.mono hsz)
        have hbel1 : Below G w w1 := hbel.trans (hb1.mono (by omega))
        have hsz1 : G + 1 ≤ w1.heap.size := Nat.le_trans hsz hb1.size
        have HR1 := hide hrow1
        have HB1 := hide hbel1
        have HS1 := hide hsz1
        clear hrow1 hbel1 hsz1 hb1 hrow hbel hsz
        go_loopw [12] (fun i wq => ∃ K : Nat, i = .int .i64 (K : Int) ∧ I ≤ K ∧ K ≤ I + 64 ∧ (K ≤ s.size ∨ K = I) ∧ ByteRow wq G 5 (xorUpto (bl key) (bl nonce) (bl s) K) ∧ Below G w wq ∧ G + 1 ≤ wq.heap.size) (fun i _ => I + 64 - (intOf i).toNat)
        case atStart => exact ⟨I, rfl, by omega, by omega, by omega, HR1.out, HB1.out, HS1.out⟩
      case round =>
        clear HR1 HB1 HS1
        obtain ⟨wo, rfl⟩ : ∃ wo : World, wo = wr := ⟨_, rfl⟩
        obtain ⟨K, rfl, hIK, hK, hKs, hrow, hbel, hsz⟩ := hrel
        by_cases hin : K < s.size ∧ K < I + 64
        · obtain ⟨h1, h2⟩ := hin
          have cc := hrow.cell K (by rw [HXL.out]; exact h1)
          have cf := hrow.free K (by rw [HXL.out]; exact h1)
          have b1 : decide (K < s.size) = true := by simpa using h1
          have b2 : ((K : Int) - (I : Int)) < (t.size : Int) := by omega
          have b3 : (0 : Int) ≤ (K : Int) - (I : Int) := by omega
          have b4 : IntKind.i64.wrap ((K : Int) - (I : Int)) = (K : Int) - (I : Int) := IntWalk.i64_in _ (by omega)
          go_upto_region 11 with fail
          refine wp_region_quiet_tail 11 (by kernel_rfl) (by kernel_rfl) ?_
          simp only [List.take_succ_cons, List.take_zero, List.drop_succ_cons, List.drop_zero]
          repeat (go_big_quiet_step (fail))
          refine wpQuiet_nil ?_
          intro nq
          go_wp2_with fail
          go_roundw
          case rel =>
            have hlb : K < (bl s).length := by rw [bl_length]; exact h1
            have hm1 : K / 64 = m := by have := HI.out; omega
            have hm2 : K % 64 = K - I := by have := HI.out; omega
            have hv : bits .xor .u8 ((byteAt (xorUpto (bl key) (bl nonce) (bl s) K) K : Nat) : Int) ((t[K - I]'(by omega)).toNat : Int) = (((bl s)[K] ^^^ ks (bl key) (bl nonce) K).toNat : Int) := by
              rw [byteAt_xorUpto _ _ _ _ hlb, byteAt_getElem _ _ hlb]
              have e : t[K - I]'(by omega) = ks (bl key) (bl nonce) K := by
                apply UInt8.toNat_inj.1
                rw [← byteAt_bl t (K - I) (by omega), HTB.out]
                unfold ks byteAt
                rw [hm1, hm2]
              rw [e, bits_xor_u8]
            rw [hv]
            refine ⟨K + 1, by go_num, by omega, by omega, by omega, ?_, (below_drewN hbel nq).setCell (Nat.le_refl _) _, by simpa [World.setCell] using hsz⟩
            rw [xorUpto_set _ _ _ _ hlb]
            exact (hrow.drewN nq).set K _ (by rw [HXL.out]; exact h1)
          case measure => simp [intOf]; omega
        · have hKe : xorUpto (bl key) (bl nonce) (bl s) K = xorUpto (bl key) (bl nonce) (bl s) (64 * (m + 1)) := by
            by_cases h : K < s.size
            · have : K = 64 * (m + 1) := by have := HI.out; omega
              rw [this]
            · rw [xorUpto_all _ _ _ _ (by rw [bl_length]; omega), xorUpto_all _ _ _ _ (by rw [bl_length]; have := HI.out; omega)]
          rw [hKe] at hrow
          have HR := hide hrow
          clear hrow hKe
          by_cases hK1 : K < s.size
          · have b1 : decide (K < s.size) = true := by simpa using hK1
            have b2 : decide ((K : Int) < (I : Int) + 64) = false := by simp; omega
            clear hin
            go_wp2
            go_roundw
            case rel => exact ⟨m + 1, by have := HI.out; go_num, by have := HI.out; omega, HR.out, hbel, hsz⟩
            case measure => simp [intOf]; omega
          · have b1 : decide (K < s.size) = false := by simpa using hK1
            clear hin
            go_wp2
            go_roundw
            case rel => exact ⟨m + 1, by have := HI.out; go_num, by have := HI.out; omega, HR.out, hbel, hsz⟩
            case measure => simp [intOf]; omega
      case round =>
        clear HR1 HB1 HS1
        obtain ⟨wo, rfl⟩ : ∃ wo : World, wo = wr := ⟨_, rfl⟩
        obtain ⟨K, rfl, hIK, hK, hKs, hrow, hbel, hsz⟩ := hrel
        have hKe : xorUpto (bl key) (bl nonce) (bl s) K = xorUpto (bl key) (bl nonce) (bl s) (64 * (m + 1)) := by
          rw [xorUpto_all _ _ _ _ (by rw [bl_length]; omega), xorUpto_all _ _ _ _ (by rw [bl_length]; have := HI.out; omega)]
        rw [hKe] at hrow
        have HR := hide hrow
        have b1 : decide (K < s.size) = false := by simp; omega
        clear hrow hKe
        go_wp2
        go_roundw
        case rel => exact ⟨m + 1, by have := HI.out; go_num, by have := HI.out; omega, HR.out, hbel, hsz⟩
        case measure => simp [intOf]; omega
    · have hcv := hrow.string (P := Tryd.prog) (src := 111) (dst := 9) (cap := C) Tryd.underlying111 Tryd.underlying5 Tryd.underlying9
      rw [HXL.out] at hcv
      have b1 : decide (I < s.size) = false := by simp; omega
      have b2 : ((I : Int) == 0) = false := by simp; omega
      have hle : s.size ≤ I := by omega
      clear hgo hrow
      go_wp2
      go_ret2
      refine ⟨?_, ?_⟩
      · rw [← xorUpto_all (bl key) (bl nonce) (bl s) I (by rw [bl_length]; exact hle)]
        rfl
      · rw [← HG.out]; exact hbel
end Go.Proofs.YtmligbaalbbgiabDoor

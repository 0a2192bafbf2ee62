/- The functions salternref.Block (of arguments that may not be) and salternref.Xor. Condition: the text of Xor has at most 65536 bytes. -/
import Derived.Test.YtmligbaalbbgiabDoorProg
import Derived.Test.YtmligbaalbbgiabDoorBase
import Derived.Test.YtmligbaalbbgiabDoorTail
import Derived.Test.YtmligbaalbbgiabDoorRefStream0
import Derived.Test.YtmligbaalbbgiabDoorRefStream3
import Derived.Test.YtmligbaalbbgiabDoorStream4
import Derived.Test.YtmligbaalbbgiabDoorStream5
import Derived.Laws.IdiomStrings
namespace Go.Proofs.YtmligbaalbbgiabDoor
open Go.RowKit

set_option maxRecDepth 100000 in
set_option maxHeartbeats 1000000 in
theorem refBlock_bad (key nonce : ByteArray) (n : Int) (h : ¬ (key.size = 32 ∧ nonce.size = 12 ∧ 0 ≤ n ∧ n < 4294967296)) (w : World) :
    Calls Tryd.prog 130 #[.string key, .int .i64 n, .string nonce] w fun e w' => e = .returned (.tuple #[emptyV, .int .i64 1]) ∧ w = w' := by
  by_cases hk : key.size = 32
  · have t1 : ((key.size : Int) != 32) = false := by simp; omega
    by_cases hn : nonce.size = 12
    · have t2 : ((nonce.size : Int) != 12) = false := by simp; omega
      have t3 : (decide (0 ≤ n) && decide (n ≤ 4294967295)) = false := by simp; omega
      clear hk hn h
      go_enter Tryd.func130, Tryd.ntmps130
      go_wp2_with (go_at_call 81; refine (in_any _ _ _ _).mono ?_; rintro e w1 ⟨rfl, rfl⟩; rw [t3])
      go_ret2
      exact ⟨rfl, rfl⟩
    · have t2 : ((nonce.size : Int) != 12) = true := by simp; omega
      clear hk hn h
      go_enter Tryd.func130, Tryd.ntmps130
      go_wp2
      go_ret2
      exact ⟨rfl, rfl⟩
  · have t1 : ((key.size : Int) != 32) = true := by simp; omega
    clear hk h
    go_enter Tryd.func130, Tryd.ntmps130
    go_wp2
    go_ret2
    exact ⟨rfl, rfl⟩
theorem refBlock_int (key nonce : ByteArray) (n : Int) (hk : key.size = 32) (hn : nonce.size = 12) (h0 : 0 ≤ n) (h1 : n < 4294967296) (w : World) :
    Calls Tryd.prog 130 #[.string key, .int .i64 n, .string nonce] w fun e w' => e = .returned (.tuple #[.string (ofl (block64 (bl key) (bl nonce) n.toNat)), .int .i64 0]) ∧ Below w.heap.size w w' := by
  obtain ⟨n, rfl⟩ := Int.eq_ofNat_of_zero_le h0
  exact refBlock_good key nonce n hk hn (by omega) w

/-- The first m blocks. -/
def blocksL (key nonce : List UInt8) : Nat → List UInt8
  | 0 => []
  | m + 1 => blocksL key nonce m ++ block64 key nonce (m + 1)
theorem blocksL_length (key nonce : List UInt8) (m : Nat) : (blocksL key nonce m).length = 64 * m := by
  induction m with
  | zero => rfl
  | succ m ih => rw [blocksL, List.length_append, ih, block64_length]; omega
theorem blocksL_at (key nonce : List UInt8) (m i : Nat) (h : i < 64 * m) : (blocksL key nonce m).getD i 0 = ks key nonce i := by
  induction m with
  | zero => omega
  | succ m ih =>
    by_cases hi : i < 64 * m
    · rw [← ih hi, blocksL]
      simp only [List.getD]
      rw [List.getElem?_append_left (by rw [blocksL_length]; exact hi)]
    · rw [blocksL]
      simp only [List.getD]
      rw [List.getElem?_append_right (by rw [blocksL_length]; omega), blocksL_length]
      unfold ks
      rw [show 1 + i / 64 = m + 1 from by omega, show i % 64 = i - 64 * m from by omega]
      simp [List.getD]
theorem refXor_bad (key nonce s : ByteArray) (h : ¬ (key.size = 32 ∧ nonce.size = 12)) (w : World) :
    Calls Tryd.prog 84 #[.string key, .string nonce, .string s] w fun e w' => e = .returned (.tuple #[emptyV, .int .i64 1]) ∧ w = w' := by
  have h' : ¬ (key.size = 32 ∧ nonce.size = 12 ∧ (0 : Int) ≤ 1 ∧ (1 : Int) < 4294967296) := fun x => h ⟨x.1, x.2.1⟩
  have HH := hide h'
  clear h h'
  by_cases hs : 0 < s.size
  · have b1 : decide (0 < s.size) = true := by simpa using hs
    go_enter Tryd.func84, Tryd.ntmps84
    go_wp2
    refine wp_loop_rounds 1 ?_
    rw [rounds_succ]
    go_wp2_with (go_at_call 130; refine (refBlock_bad key nonce _ HH.out _).mono ?_; rintro e w1 ⟨rfl, rfl⟩; unfold emptyV)
    go_ret2
    exact ⟨rfl, rfl⟩
  · have b1 : decide (0 < s.size) = false := by simpa using hs
    go_enter Tryd.func84, Tryd.ntmps84
    go_wp2
    refine wp_loop_rounds 1 ?_
    rw [rounds_succ]
    go_wp2_with (go_at_call 130; refine (refBlock_bad key nonce _ HH.out _).mono ?_; rintro e w1 ⟨rfl, rfl⟩; unfold emptyV)
    go_ret2
    exact ⟨rfl, rfl⟩

set_option maxRecDepth 100000 in
set_option maxHeartbeats 4000000 in
theorem refXor_good (key nonce s : ByteArray) (hk : key.size = 32) (hn : nonce.size = 12) (hs : s.size ≤ 65536) (w : World) :
    Calls Tryd.prog 84 #[.string key, .string nonce, .string s] w fun e w' => e = .returned (.tuple #[.string (ofl (xorS (bl key) (bl nonce) (bl s))), .int .i64 0]) ∧ Below w.heap.size w w' := by
  have HK := hide hk
  have HN := hide hn
  clear hk hn
  go_enter Tryd.func84, Tryd.ntmps84
  go_wp2
  go_loopw [8, 9] (fun a i wr => ∃ j : Nat, 1 ≤ j ∧ i = .int .i64 (j : Int) ∧ a = .string (ofl (blocksL (bl key) (bl nonce) (j - 1))) ∧ 64 * j ≤ s.size + 128 ∧ Below w.heap.size w wr) (fun _ i _ => 65800 - (intOf i).toNat)
  case atStart => exact ⟨1, by omega, rfl, rfl, by omega, Below.refl _ _⟩
  case round =>
    obtain ⟨j, hj, rfl, rfl, hjs, hbel⟩ := hrel
    obtain ⟨t, ht⟩ : ∃ t, t = ofl (blocksL (bl key) (bl nonce) (j - 1)) := ⟨_, rfl⟩
    have htl : t.size = 64 * (j - 1) := by rw [ht, ofl_size, blocksL_length]
    rw [← ht]
    have HT := hide ht
    have HTL := hide htl
    clear ht
    have ht1 : t.size ≤ s.size + 64 := by omega
    by_cases hgo : t.size < s.size ∨ j = 1
    · have hp : (decide (t.size < s.size) = true) ∨ (decide (t.size < s.size) = false ∧ ((j : Int) == 1) = true) := by
        by_cases h : t.size < s.size
        · left; simpa using h
        · right; refine ⟨by simpa using h, ?_⟩
          simp; omega
      have hnx : 64 * (j + 1) ≤ s.size + 128 := by omega
      clear hgo htl
      obtain ⟨b, hb⟩ : ∃ b, b = ofl (block64 (bl key) (bl nonce) (j : Int).toNat) := ⟨_, rfl⟩
      have hbl : b.size = 64 := by rw [hb, ofl_size, block64_length]
      have HB := hide hb
      clear hb
      have hbl1 : b.size ≤ 64 := by omega
      have hw2 := hide hbel
      clear hbel
      rcases hp with hp | ⟨hp, hq⟩
      all_goals
        go_wp2_with (go_at_call 130; refine (refBlock_int key nonce _ HK.out HN.out (by omega) (by omega) _).mono ?_; rintro e w1 ⟨rfl, hb1⟩; rw [← HB.out]; have HB1 := hide (below_step hw2.out hb1); clear hb1)
        go_roundw
        case rel =>
          refine ⟨j + 1, by omega, by go_num, ?_, hnx, HB1.out⟩
          rw [HT.out, HB.out, ofl_append, show j + 1 - 1 = (j - 1) + 1 from by omega, blocksL, show (j : Int).toNat = j - 1 + 1 from by omega]
        case measure => simp [intOf]; omega
    · have hp : decide (t.size < s.size) = false := by simp; omega
      have hq : ((j : Int) == 1) = false := by simp; omega
      have hle : s.size ≤ t.size := by omega
      have HW := hide hbel
      have htb : ∀ K, K < t.size → byteAt (bl t) K = (ks (bl key) (bl nonce) K).toNat := by
        intro K hK
        rw [HT.out, bl_ofl]
        unfold byteAt
        rw [blocksL_at _ _ _ _ (by omega)]
      have HTB := hide htb
      clear hgo htl hbel htb
      obtain ⟨wo, rfl⟩ : ∃ wo : World, wo = wr := ⟨_, rfl⟩
      have hcv := run_bytes_of_string (P := Tryd.prog) wo 9 111 5 s Tryd.underlying9 Tryd.underlying111 Tryd.underlying5
      go_wp2
      have hR := (byteRow_new wo s 5 (grownCap wo s.size 0 5)).drewN 1
      have hB1 : Below w.heap.size w ((wo.alloc (.cells (bytesRow s (grownCap wo s.size 0 5)) 5 ((bytesRow s (grownCap wo s.size 0 5)).size, (bytesRow s (grownCap wo s.size 0 5)).size + 1))).drewN 1) := below_drewN (HW.out.alloc HW.out.size _) 1
      clear hcv
      obtain ⟨W1, hW1⟩ : ∃ W1, W1 = (wo.alloc (.cells (bytesRow s (grownCap wo s.size 0 5)) 5 ((bytesRow s (grownCap wo s.size 0 5)).size, (bytesRow s (grownCap wo s.size 0 5)).size + 1))).drewN 1 := ⟨_, rfl⟩
      rw [← hW1] at hR hB1
      rw [show ((wo.alloc (.cells (bytesRow s (grownCap wo s.size 0 5)) 5 ((bytesRow s (grownCap wo s.size 0 5)).size, (bytesRow s (grownCap wo s.size 0 5)).size + 1))).drew) = W1 from hW1.symm]
      clear hW1
      generalize grownCap wo s.size 0 5 = C
      have hG1 := HW.out.size
      obtain ⟨G, hG⟩ : ∃ G, G = wo.heap.size := ⟨_, rfl⟩
      rw [← hG] at hR hG1 ⊢
      have HG1 := hide hG1
      have HB1 := hide hB1
      have HR := hide hR
      have hxl := fun p => xorUpto_length (bl key) (bl nonce) (bl s) p
      rw [bl_length] at hxl
      have HXL := hide hxl
      clear hxl hG hB1 hR hG1 HW
      go_loopw [42] (fun i wq => ∃ K : Nat, K ≤ s.size ∧ i = .int .i64 (K : Int) ∧ ByteRow wq G 5 (xorUpto (bl key) (bl nonce) (bl s) K) ∧ Below w.heap.size w wq) (fun i _ => s.size - (intOf i).toNat)
      case atStart => exact ⟨0, by omega, rfl, by rw [xorUpto_zero]; exact HR.out, HB1.out⟩
      case round =>
        clear HR HB1
        obtain ⟨K, hK, rfl, hrow, hbel⟩ := hrel
        by_cases h1 : K < s.size
        · have cc := hrow.cell K (by rw [HXL.out]; exact h1)
          have cf := hrow.free K (by rw [HXL.out]; exact h1)
          have b1 : decide (K < s.size) = true := by simpa using h1
          have b2 : (K : Int) < (t.size : Int) := by omega
          go_upto_region 13 with fail
          refine wp_region_quiet_tail 9 (by kernel_rfl) (by kernel_rfl) ?_
          simp only [List.take_succ_cons, List.take_zero, List.drop_succ_cons, List.drop_zero]
          repeat (go_big_quiet_step (fail))
          refine wpQuiet_nil ?_
          intro nq
          go_wp2_with fail
          go_roundw
          case rel =>
            have hlb : K < (bl s).length := by rw [bl_length]; exact h1
            have hKt : K < t.size := by omega
            have hv : bits .xor .u8 ((byteAt (xorUpto (bl key) (bl nonce) (bl s) K) K : Nat) : Int) ((t[K]'hKt).toNat : Int) = (((bl s)[K] ^^^ ks (bl key) (bl nonce) K).toNat : Int) := by
              rw [byteAt_xorUpto _ _ _ _ hlb, byteAt_getElem _ _ hlb]
              have e : t[K]'hKt = ks (bl key) (bl nonce) K := by
                apply UInt8.toNat_inj.1
                rw [← byteAt_bl t K hKt, HTB.out K hKt]
              rw [e, bits_xor_u8]
            rw [hv]
            refine ⟨K + 1, by omega, by go_num, ?_, (below_drewN hbel nq).setCell HG1.out _⟩
            rw [xorUpto_set _ _ _ _ hlb]
            exact (hrow.drewN nq).set K _ (by rw [HXL.out]; exact h1)
          case measure => simp [intOf]; omega
        · obtain rfl : K = s.size := by omega
          have hcv := hrow.string (P := Tryd.prog) (src := 111) (dst := 9) (cap := C) Tryd.underlying111 Tryd.underlying5 Tryd.underlying9
          rw [HXL.out] at hcv
          have b1 : decide (s.size < s.size) = false := by simp
          clear h1 hK hrow
          go_wp2
          go_ret2
          refine ⟨?_, hbel⟩
          rw [← xorUpto_all (bl key) (bl nonce) (bl s) s.size (by rw [bl_length]; exact Nat.le_refl _)]
          rfl
end Go.Proofs.YtmligbaalbbgiabDoor

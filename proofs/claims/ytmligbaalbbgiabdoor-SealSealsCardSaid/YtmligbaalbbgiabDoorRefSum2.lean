/- The reference's Sum, (*R).Sum. Conditions: a text of at most 65536 bytes; the reference's block holds its numbers. -/
import Derived.Test.YtmligbaalbbgiabDoorProg
import Derived.Test.YtmligbaalbbgiabDoorBase
import Derived.Test.YtmligbaalbbgiabDoorTail
import Derived.Test.YtmligbaalbbgiabDoorShaT
import Derived.Test.YtmligbaalbbgiabDoorShaR
import Derived.Test.YtmligbaalbbgiabDoorGrow
import Derived.Test.YtmligbaalbbgiabDoorSum2
import Derived.Test.YtmligbaalbbgiabDoorSum3
import Derived.Test.YtmligbaalbbgiabDoorRefSum0
import Derived.Test.YtmligbaalbbgiabDoorRefSum1
import Derived.Deep.MidRow
namespace Go.Proofs.YtmligbaalbbgiabDoor
open Go.RowKit

set_option maxRecDepth 100000 in
set_option maxHeartbeats 8000000 in
theorem refsum_any (s : ByteArray) (hs : s.size ≤ 65536) (r : Nat) (w : World) (hR : Blk w r 125 (words (h0S ++ kS))) :
    Calls Tryd.prog 129 #[.pointer (some ⟨r, 0, none⟩), .string s] w fun e w' => e = .returned (.string (ofl (sumBy kS h0S (bl s)))) ∧ Below w.heap.size w w' := by
  obtain ⟨i0, hi0, hz0, hz1, hz2⟩ := info_parts info_u8s
  have HRB := hide hR
  have HRL := hide hR.lt
  have HRG : Hid (w.rangeAt r 0 (words h0S).toList) := hide (by
    intro j v hv
    rw [hR.cell, Nat.zero_add]
    have hj : j < 8 := by have := (List.getElem?_eq_some_iff.1 hv).1; simpa [words, h0S] using this
    have : (words (h0S ++ kS))[j]? = (words h0S).toList[j]? := by
      simp only [words, List.map_append, List.getElem?_toArray]
      rw [List.getElem?_append_left (by simpa [h0S] using hj)]
    rw [this, hv])
  clear hR
  have hi8 : Hid ((Tryd.prog.info? 122).map (·.size) = some 8) := hide (by kernel_rfl)
  go_enter Tryd.func129, Tryd.ntmps129
  go_upto_region 2 with (first
    | (refine wpList_load_mid rfl 122 (.tmp 33) rfl r 0 rfl (words h0S).toList _ HRG.out Tryd.underlying122 rfl hi8.out ?_)
    | (refine wpList_store_row rfl 122 (.tmp 5) (.tmp 34) rfl w.heap.size (words h0S) rfl rfl 122 _ (Blk.new w 122 _) hi8.out rfl (words_oneCell h0S) ?_; rw [setRow_alloc]))
  obtain ⟨H, hH⟩ : ∃ H, H = w.heap.size := ⟨_, rfl⟩
  obtain ⟨W1, hW1⟩ : ∃ W1, W1 = w.alloc (.cells (words h0S) 122) := ⟨_, rfl⟩
  have HSZ : Hid (W1.heap.size = H + 1) := hide (by rw [hW1, hH]; simp)
  have HI : Hid (RIn w W1 r H h0S) := hide (by rw [hW1, hH]; exact ⟨HRB.out.alloc _, Blk.new _ _ _, HRL.out, rfl, (Below.refl _ _).alloc (Nat.le_refl _) _⟩)
  have HH := hide hH
  rw [← hW1]
  rw [← hH]
  clear hW1 hH HRG HRB hi8
  have hcv := run_bytes_of_string (P := Tryd.prog) W1 9 111 5 s Tryd.underlying9 Tryd.underlying111 Tryd.underlying5
  have HG2 := hide ((grow_new W1 s 5 (grownCap W1 s.size 0 5) (H + 1) (by rw [HSZ.out]; exact Nat.le_refl _) (grownCap_ge W1 s.size 0 5)).drewN 1)
  have HI2 := hide ((HI.out.alloc (.cells (bytesRow s (grownCap W1 s.size 0 5)) 5 ((bytesRow s (grownCap W1 s.size 0 5)).size, (bytesRow s (grownCap W1 s.size 0 5)).size + 1))).drewN 1)
  have NW : Hid (∀ (j : Nat) (u : Value), (bytesV [128])[j]? = some u → (((W1.alloc (.cells (bytesRow s (grownCap W1 s.size 0 5)) 5 ((bytesRow s (grownCap W1 s.size 0 5)).size, (bytesRow s (grownCap W1 s.size 0 5)).size + 1))).drewN 1).alloc (.cells #[.int .u8 128] 5)).cell? ((⟨W1.heap.size + 1, 0, none⟩ : Addr).add j) = some u) := hide (by
    have := news_new ((W1.alloc (.cells (bytesRow s (grownCap W1 s.size 0 5)) 5 ((bytesRow s (grownCap W1 s.size 0 5)).size, (bytesRow s (grownCap W1 s.size 0 5)).size + 1))).drewN 1) #[.int .u8 128] 5
    rwa [show ((W1.alloc (.cells (bytesRow s (grownCap W1 s.size 0 5)) 5 ((bytesRow s (grownCap W1 s.size 0 5)).size, (bytesRow s (grownCap W1 s.size 0 5)).size + 1))).drewN 1).heap.size = W1.heap.size + 1 from by simp] at this)
  have LW : Hid (H + 1 ≤ (((W1.alloc (.cells (bytesRow s (grownCap W1 s.size 0 5)) 5 ((bytesRow s (grownCap W1 s.size 0 5)).size, (bytesRow s (grownCap W1 s.size 0 5)).size + 1))).drewN 1).alloc (.cells #[.int .u8 128] 5)).heap.size) := hide (by simp; rw [HSZ.out]; omega)
  go_upto_region 4 with (at_builtin; refine wpList_append_grow _ rfl (.tmp 36) (.tmp 37) 111 rfl 5 i0 (.int .u8 0) 1 Tryd.underlying111 hi0 hz0 hz1 hz2 rfl (H + 1) _ s.size (bytesV (bl s)) rfl (HG2.out.alloc _) ⟨W1.heap.size + 1, 0, none⟩ 0 1 (bytesV [128]) rfl rfl NW.out (bytesV_oneCell _) (by unfold maxLen; omega) (by omega) LW.out ?_; intro v3 w3 hg3 hb3; rw [← bytesV_append] at hg3)
  have HI3 : Hid (RIn w w3 r H h0S) := hide ((HI2.out.alloc _).kept (row := some W1.heap.size) hb3 (fun k hk => by cases hk; rw [HSZ.out]; exact Nat.le_refl _))
  have HG3 := hide hg3
  clear hb3 hg3 HG2 HI2 HI HSZ hcv NW LW
  go_loopw [7] (fun v wr => ∃ j, j ≤ padZ s.size ∧ Grow wr (H + 1) v (s.size + 1 + j) (bytesV (preP (bl s) j)) ∧ RIn w wr r H h0S) (fun v _ => 65700 - lenV v)
  case atStart => exact ⟨0, by omega, by have := HG3.out; simpa [preP] using this, HI3.out⟩
  case round =>
    clear HI3 HG3
    obtain ⟨wa, rfl⟩ : ∃ wa : World, wa = wr := ⟨_, rfl⟩
    obtain ⟨j, hj, hg, hI⟩ := hrel
    have hjl := padZ_lt s.size
    have hjp := padZ_at s.size j hj
    have HG := hide hg
    have HI := hide hI
    obtain ⟨g, cap, rfl, g1, _⟩ := hg
    obtain ⟨N, hN⟩ : ∃ N, N = s.size + 1 + j := ⟨_, rfl⟩
    rw [← hN] at HG hjp ⊢
    have HN := hide hN
    have hNl : N ≤ 65700 := by omega
    have HSL := hide HI.out.lt'
    clear hI hN
    by_cases hz : j = padZ s.size
    · have b1 : ((N : Int) % 64 != 56) = false := by simp; omega
      have HZ : Hid (N = s.size + 1 + padZ s.size) := hide (by rw [HN.out, hz])
      rw [hz] at HG
      clear hj hjp hz hjl
      obtain ⟨V, hV⟩ : ∃ V, V = Value.slice (some { block := g, off := 0 }) N cap := ⟨_, rfl⟩
      rw [← hV] at HG
      have HV := hide hV
      clear hV
      go_wp2_with fail
      obtain ⟨X, hX⟩ : ∃ X, X = 8 * s.size := ⟨_, rfl⟩
      have hXI : Hid ((s.size : Int) * 8 = (X : Int)) := hide (by omega)
      have hXl : X < 18446744073709551616 := by omega
      have HX := hide hX
      obtain ⟨P0, hP0⟩ : ∃ P, P = preP (bl s) (padZ s.size) := ⟨_, rfl⟩
      rw [← hP0] at HG
      have HP := hide hP0
      rw [← HV.out]
      clear hX hP0
      go_loopw [7, 8] (fun v i wr => ∃ k : Nat, k ≤ 8 ∧ i = .int .i64 (56 - 8 * (k : Int)) ∧ Grow wr (H + 1) v (N + k) (bytesV (P0 ++ be8U X k)) ∧ RIn w wr r H h0S) (fun _ i _ => (intOf i + 8).toNat)
      case atStart => exact ⟨0, by omega, rfl, by have := HG.out; simpa [be8U] using this, HI.out⟩
      case round =>
        clear HI HG HSL
        obtain ⟨wb, rfl⟩ : ∃ wb : World, wb = wr := ⟨_, rfl⟩
        obtain ⟨k, hk, rfl, hg, hI⟩ := hrel
        have HG := hide hg
        have HI := hide hI
        have HSL := hide HI.out.lt'
        clear hI hg
        by_cases hk8 : k < 8
        · have b0 : decide ((0 : Int) ≤ 56 - 8 * (k : Int)) = true := by simp; omega
          have b2 : (0 : Int) ≤ 56 - 8 * (k : Int) := by omega
          have b3 : 56 - 8 * (k : Int) < 64 := by omega
          have b4 : (56 - 8 * (k : Int)).toNat = 8 * (7 - k) := by omega
          have e1 : bytesV [UInt8.ofNat (X / 2 ^ (8 * (7 - k)) % 256)] = [Value.int .u8 ((s.size : Int) * 8 / 2 ^ (8 * (7 - k)) % 256)] := by
            rw [bytesV_one _ (Nat.mod_lt _ (by omega)), hXI.out]
            simp
          have E1 := hide e1
          clear e1
          go_wp2_with (at_builtin; refine wpList_append_grow _ rfl (.tmp 50) (.tmp 58) 111 rfl 5 i0 (.int .u8 0) 1 Tryd.underlying111 hi0 hz0 hz1 hz2 rfl (H + 1) _ (N + k) (bytesV (P0 ++ be8U X k)) rfl (HG.out.alloc _) ⟨wb.heap.size, 0, none⟩ 0 1 [Value.int .u8 ((s.size : Int) * 8 / 2 ^ (8 * (7 - k)) % 256)] rfl rfl (news_new wb _ _) (by rw [← E1.out]; exact bytesV_oneCell _) (by unfold maxLen; omega) (by omega) (by have := HSL.out; simp; omega) ?_; intro v4 w4 hg4 hb4; rw [← E1.out, ← bytesV_append] at hg4)
          have hI4 := (HI.out.alloc _).kept hb4 (fun q hq => (HG.out.lt q hq).1)
          have HG4 := hide hg4
          have HI4 := hide hI4
          clear hg4 hb4 hI4
          go_roundw
          case rel => exact ⟨k + 1, by omega, by congr 1; omega, by have := HG4.out; rwa [List.append_assoc] at this, HI4.out⟩
          case measure => simp [intOf]; omega
        · obtain rfl : k = 8 := by omega
          rw [show (56 : Int) - 8 * ((8 : Nat) : Int) = -8 from rfl]
          obtain ⟨g', cap', rfl, r1, r2, r3, r4, r5, r6⟩ := HG.out
          obtain ⟨Q, hQ⟩ : ∃ Q, Q = N + 8 := ⟨_, rfl⟩
          have hQ64 : Q = 64 * ((s.size + 72) / 64) := by
            have := HZ.out
            unfold padZ at this
            omega
          rw [← hQ] at HG r3 ⊢
          have hPP : P0 ++ be8U X 8 = padL (bl s) := by
            unfold padL
            rw [bl_length, ← HP.out, ← HX.out]
          rw [hPP] at HG
          have hQl : Q ≤ 65800 := by omega
          have HQ := hide hQ64
          clear hQ hQ64 r1 r2 r4 r5 r6 hk hk8 hPP b1 hNl
          --STAGEB
          obtain ⟨g, hg⟩ : ∃ g0, g0 = g' := ⟨_, rfl⟩
          obtain ⟨p, hp⟩ : ∃ p, p = padL (bl s) := ⟨_, rfl⟩
          obtain ⟨nb, hnb⟩ : ∃ nb, nb = (s.size + 72) / 64 := ⟨_, rfl⟩
          rw [← hg, ← hp] at HG
          rw [← hnb] at HQ
          rw [← hg]
          have HPL : Hid (p.length = Q) := hide (by rw [HQ.out, hp, padL_length, bl_length, ← hnb])
          have HPD := hide hp
          have HNB := hide hnb
          clear hg hp hnb HP HX hXI hXl HV HZ HN HSL
          go_wp2_with fail
          go_loopw [7] (fun v wr => ∃ m O R C : Nat, m ≤ nb ∧ O = 64 * m ∧ R + O = Q ∧ R ≤ C ∧ (∃ A, v = .slice A R C ∧ (0 < R → A = some ⟨g, O, none⟩)) ∧ Grow wr (H + 1) (.slice (some ⟨g, 0, none⟩) Q cap') Q (bytesV p) ∧ RIn w wr r H (hashN kS h0S p m)) (fun v _ => lenV v)
          case atStart => exact ⟨0, 0, Q, cap', by omega, rfl, rfl, r3, ⟨_, rfl, fun _ => rfl⟩, HG.out, HI.out⟩
          case round =>
            clear HI HG r3
            obtain ⟨wc, rfl⟩ : ∃ wc : World, wc = wr := ⟨_, rfl⟩
            obtain ⟨m, O, R, C, hm, hO, hRO, hRC, ⟨A, rfl, hA⟩, hg, hI⟩ := hrel
            have HG := hide hg
            have HI := hide hI
            clear hg hI
            obtain ⟨h, hh⟩ : ∃ h, h = hashN kS h0S p m := ⟨_, rfl⟩
            rw [← hh] at HI
            have HL : Hid (h.length = 8) := hide (by rw [hh, hashN_length]; rfl)
            have HW : Hid (Words32 h) := hide (by rw [hh]; exact hashN_words _ _ _ h0S_words)
            have HH2 := hide hh
            clear hh
            by_cases hR : 0 < R
            · obtain rfl := hA hR
              clear hA
              have b0 : decide ((0 : Int) < (R : Int)) = true := by simp; omega
              have b0' : decide (0 < R) = true := by simp; omega
              have hmn : m < nb := by have := HQ.out; omega
              have hR64 : 64 ≤ R := by have := HQ.out; omega
              have hQ2 : O + 64 ≤ Q := by omega
              have HRO := hide hRO
              have HO := hide hO
              clear hRO hO
              obtain ⟨c, hc⟩ : ∃ c, c = (p.drop O).take 64 := ⟨_, rfl⟩
              have HC := hide hc
              have HCB : Hid (∀ i, i < 64 → byteAt c i = byteAt p (O + i)) := hide (by
                intro i hi
                rw [hc]
                simp [byteAt, List.getD, hi])
              clear hc
              go_upto_region 14 with fail
              have HWn := hide (RW.new HI.out HG.out zeros64)
              obtain ⟨W, hW⟩ : ∃ W, W = wc.heap.size := ⟨_, rfl⟩
              obtain ⟨wd, hwd⟩ : ∃ wd, wd = wc.alloc (.cells (words zeros64) 123) := ⟨_, rfl⟩
              rw [← hW, ← hwd] at HWn
              rw [← hW]
              rw [show wc.alloc (Obj.cells #[Value.int IntKind.u32 0, Value.int IntKind.u32 0, Value.int IntKind.u32 0, Value.int IntKind.u32 0, Value.int IntKind.u32 0, Value.int IntKind.u32 0, Value.int IntKind.u32 0, Value.int IntKind.u32 0, Value.int IntKind.u32 0, Value.int IntKind.u32 0, Value.int IntKind.u32 0, Value.int IntKind.u32 0, Value.int IntKind.u32 0, Value.int IntKind.u32 0, Value.int IntKind.u32 0, Value.int IntKind.u32 0, Value.int IntKind.u32 0, Value.int IntKind.u32 0, Value.int IntKind.u32 0, Value.int IntKind.u32 0, Value.int IntKind.u32 0, Value.int IntKind.u32 0, Value.int IntKind.u32 0, Value.int IntKind.u32 0, Value.int IntKind.u32 0, Value.int IntKind.u32 0, Value.int IntKind.u32 0, Value.int IntKind.u32 0, Value.int IntKind.u32 0, Value.int IntKind.u32 0, Value.int IntKind.u32 0, Value.int IntKind.u32 0, Value.int IntKind.u32 0, Value.int IntKind.u32 0, Value.int IntKind.u32 0, Value.int IntKind.u32 0, Value.int IntKind.u32 0, Value.int IntKind.u32 0, Value.int IntKind.u32 0, Value.int IntKind.u32 0, Value.int IntKind.u32 0, Value.int IntKind.u32 0, Value.int IntKind.u32 0, Value.int IntKind.u32 0, Value.int IntKind.u32 0, Value.int IntKind.u32 0, Value.int IntKind.u32 0, Value.int IntKind.u32 0, Value.int IntKind.u32 0, Value.int IntKind.u32 0, Value.int IntKind.u32 0, Value.int IntKind.u32 0, Value.int IntKind.u32 0, Value.int IntKind.u32 0, Value.int IntKind.u32 0, Value.int IntKind.u32 0, Value.int IntKind.u32 0, Value.int IntKind.u32 0, Value.int IntKind.u32 0, Value.int IntKind.u32 0, Value.int IntKind.u32 0, Value.int IntKind.u32 0, Value.int IntKind.u32 0, Value.int IntKind.u32 0] 123) = wd from hwd.symm]
              clear hW hwd HI HG
              go_loopw [65] (fun i wr => ∃ k : Nat, k ≤ 64 ∧ i = .int .i64 (k : Int) ∧ RW w wr r H g Q cap' W h (sofar c k) p) (fun i _ => 64 - (intOf i).toNat)
              case atStart => exact ⟨0, by omega, rfl, HWn.out⟩
              case round =>
                clear HWn
                obtain ⟨x1, rfl⟩ : ∃ x1 : World, x1 = wr := ⟨_, rfl⟩
                obtain ⟨k, hk, rfl, hI⟩ := hrel
                have HI := hide hI
                clear hI
                by_cases hlt : k < 64
                · have c0 : decide ((k : Int) < 64) = true := by simp; omega
                  by_cases h16 : k < 16
                  · as_aux_lemma =>
                      have c1 : decide ((k : Int) < 16) = true := by simp; omega
                      have j0 : (0 : Int) ≤ 4 * (k : Int) := by omega
                      have j1 : 4 * (k : Int) + 4 ≤ (C : Int) := by omega
                      have j2 : 4 * (k : Int) ≤ 4 * (k : Int) + 4 := by omega
                      have j3 : (4 * (k : Int)).toNat = 4 * k := by omega
                      have j4 : (4 * (k : Int) + 4).toNat = 4 * k + 4 := by omega
                      go_upto_region 18 with fail
                      go_loopw [78] (fun j wr => ∃ J : Nat, J ≤ 4 ∧ j = .int .i64 (J : Int) ∧ RW w wr r H g Q cap' W h ((sofar c k).set k (beN (c.drop (4 * k)) J)) p) (fun j _ => 4 - (intOf j).toNat)
                      case atStart => exact ⟨0, by omega, rfl, by rw [show beN (c.drop (4 * k)) 0 = 0 from rfl, set_same _ _ (sofar_zero h16)]; exact HI.out⟩
                      case round =>
                        clear HI
                        obtain ⟨x2, rfl⟩ : ∃ x2 : World, x2 = wr := ⟨_, rfl⟩
                        obtain ⟨J, hJ, rfl, hI⟩ := hrel
                        by_cases hJ4 : J < 4
                        · have c2 : decide ((J : Int) < 4) = true := by simp; omega
                          have c3 : (J : Int) < 4 := by omega
                          obtain ⟨D, hD⟩ : ∃ D, D = byteAt (c.drop (4 * k)) J := ⟨_, rfl⟩
                          have hDl : D < 256 := by rw [hD]; exact byteAt_lt _ _
                          have cx : x2.cell? ⟨g, O + 4 * k + J, none⟩ = some (.int .u8 ((D : Nat) : Int)) := by
                            rw [hI.txt.byte _ (by rw [HPL.out]; omega), hD, byteAt_drop, HCB.out _ (by omega), Nat.add_assoc]
                          obtain ⟨B, hB⟩ : ∃ B, B = beN (c.drop (4 * k)) J := ⟨_, rfl⟩
                          have hBl : B < 4294967296 := by rw [hB]; exact beN_lt _ _ (by omega)
                          have cw : x2.cell? ⟨W, k, none⟩ = some (.int .u32 ((B : Nat) : Int)) := by
                            rw [hI.row.word (i := k) (by rw [List.length_set, sofar_length]; exact hlt), nth_set_self _ _ _ (by rw [sofar_length]; exact hlt), hB]
                          have cf := hI.row.frozen k
                          have HI := hide hI
                          have HD := hide hD
                          have HB := hide hB
                          clear hI hD hB
                          go_wp2_with fail
                          rw [beN_step2 _ J hJ4 B D HB.out HD.out]
                          refine ⟨⟨J + 1, by omega, by go_num, ?_⟩, by simp [intOf]; omega⟩
                          have h1 := HI.out.put k (beN (c.drop (4 * k)) (J + 1))
                          rwa [List.set_set] at h1
                        · obtain rfl : J = 4 := by omega
                          rw [show ((4 : Nat) : Int) = 4 from rfl]
                          rw [beN_4, ← sofar_low h16] at hI
                          have HI := hide hI
                          clear hI hJ4 hJ
                          go_wp2_with fail
                          go_roundw
                          case rel => exact ⟨k + 1, by omega, by go_num, HI.out⟩
                          case measure => simp [intOf]; omega
                  · as_aux_lemma =>
                      have c1 : decide ((k : Int) < 16) = false := by simp; omega
                      obtain ⟨L, hL⟩ : ∃ L, L = sofar c k := ⟨_, rfl⟩
                      have hS : sofar c (k + 1) = L.set k (schedV L k) := by rw [hL]; exact sofar_high (by omega)
                      have HS := hide hS
                      have HLl : Hid (L.length = 64) := hide (by rw [hL, sofar_length])
                      have HLw : Hid (Words32 L) := hide (by rw [hL]; exact sofar_words _ _)
                      rw [← hL] at HI
                      clear hL hS
                      have c15 := HI.out.row.word (i := k - 15) (by rw [HLl.out]; omega)
                      have c2 := HI.out.row.word (i := k - 2) (by rw [HLl.out]; omega)
                      have j15 : (0 : Int) ≤ (k : Int) - 15 := by omega
                      have l15 : (k : Int) - 15 < 64 := by omega
                      have t15 : ((k : Int) - 15).toNat = k - 15 := by omega
                      have w15 : IntKind.i64.wrap ((k : Int) - 15) = (k : Int) - 15 := IntWalk.i64_in _ (by omega)
                      have w2' : IntKind.i64.wrap ((k : Int) - 2) = (k : Int) - 2 := IntWalk.i64_in _ (by omega)
                      have j2 : (0 : Int) ≤ (k : Int) - 2 := by omega
                      have l2 : (k : Int) - 2 < 64 := by omega
                      have t2 : ((k : Int) - 2).toNat = k - 2 := by omega
                      go_upto_region 22 with fail
                      go_quiet (fail)
                      have HI2 := hide (HI.out.drewN nq)
                      obtain ⟨x2, hx2⟩ : ∃ x2, x2 = x1.drewN nq := ⟨_, rfl⟩
                      rw [← hx2] at HI2 ⊢
                      clear hx2 HI c15 c2 j15 l15 t15 w15 j2 l2 t2 w2'
                      have c16 := HI2.out.row.word (i := k - 16) (by rw [HLl.out]; omega)
                      have c7 := HI2.out.row.word (i := k - 7) (by rw [HLl.out]; omega)
                      have cI := HI2.out.row.word (i := k) (by rw [HLl.out]; omega)
                      have cf := HI2.out.row.frozen k
                      have j16 : (0 : Int) ≤ (k : Int) - 16 := by omega
                      have l16 : (k : Int) - 16 < 64 := by omega
                      have t16 : ((k : Int) - 16).toNat = k - 16 := by omega
                      have w16 : IntKind.i64.wrap ((k : Int) - 16) = (k : Int) - 16 := IntWalk.i64_in _ (by omega)
                      have j7 : (0 : Int) ≤ (k : Int) - 7 := by omega
                      have l7 : (k : Int) - 7 < 64 := by omega
                      have t7 : ((k : Int) - 7).toNat = k - 7 := by omega
                      have w7 : IntKind.i64.wrap ((k : Int) - 7) = (k : Int) - 7 := IntWalk.i64_in _ (by omega)
                      have jk : (k : Int) < 64 := by omega
                      have hsl2 : nth L (k - 2) < 4294967296 := HLw.out _
                      have hsl15 : nth L (k - 15) < 4294967296 := HLw.out _
                      go_upto_region 23 with fail
                      refine wp_region_quiet_tail 33 (by kernel_rfl) (by kernel_rfl) ?_
                      simp only [List.take_succ_cons, List.take_zero, List.drop_succ_cons, List.drop_zero]
                      repeat (go_big_quiet_step ((go_at_call 152; exact Calls.quiet_of (rot_int _ _ (HLw.out _) (by omega) (by omega) _))))
                      refine wpQuiet_nil ?_
                      intro nq
                      go_wp2_with fail
                      rw [sgm1_bits (HLw.out _), sgm0_bits (HLw.out _)]
                      first | rw [sched_ref'] | rw [sched_ref]
                      go_roundw
                      case rel =>
                        refine ⟨k + 1, by omega, by go_num, ?_⟩
                        have h1 := (HI2.out.drewN nq).put k (schedV L k)
                        rw [HS.out]
                        exact h1
                      case measure => simp [intOf]; omega
                · obtain rfl : k = 64 := by omega
                  rw [show ((64 : Nat) : Int) = 64 from rfl]
                  obtain ⟨L, hL⟩ : ∃ L, L = sofar c 64 := ⟨_, rfl⟩
                  have HLD := hide hL
                  have HLl : Hid (L.length = 64) := hide (by rw [hL, sofar_length])
                  rw [← hL] at HI
                  have g0 := HI.out.base.box.word (i := 0) (by rw [HL.out]; omega)
                  have g1' := HI.out.base.box.word (i := 1) (by rw [HL.out]; omega)
                  have g2 := HI.out.base.box.word (i := 2) (by rw [HL.out]; omega)
                  have g3 := HI.out.base.box.word (i := 3) (by rw [HL.out]; omega)
                  have g4 := HI.out.base.box.word (i := 4) (by rw [HL.out]; omega)
                  have g5 := HI.out.base.box.word (i := 5) (by rw [HL.out]; omega)
                  have g6 := HI.out.base.box.word (i := 6) (by rw [HL.out]; omega)
                  have g7 := HI.out.base.box.word (i := 7) (by rw [HL.out]; omega)
                  clear hL hk hlt
                  go_upto_region 25 with fail
                  go_quiet (fail)
                  have HI2 := hide (HI.out.drewN nq)
                  obtain ⟨x2, hx2⟩ : ∃ x2, x2 = x1.drewN nq := ⟨_, rfl⟩
                  rw [← hx2] at HI2 ⊢
                  clear hx2 HI g0 g1' g2 g3 g4 g5 g6 g7
                  go_upto_region 27 with fail
                  go_loopw [15, 16, 17, 18, 19, 20, 21, 22, 150] (fun z0 z1 z2 z3 z4 z5 z6 z7 t wr => ∃ T : Nat, T ≤ 64 ∧ t = .int .i64 (T : Int) ∧ (∃ v, v = roundsS kS L T h ∧ z0 = .int .u32 ((nth v 0 : Nat) : Int) ∧ z1 = .int .u32 ((nth v 1 : Nat) : Int) ∧ z2 = .int .u32 ((nth v 2 : Nat) : Int) ∧ z3 = .int .u32 ((nth v 3 : Nat) : Int) ∧ z4 = .int .u32 ((nth v 4 : Nat) : Int) ∧ z5 = .int .u32 ((nth v 5 : Nat) : Int) ∧ z6 = .int .u32 ((nth v 6 : Nat) : Int) ∧ z7 = .int .u32 ((nth v 7 : Nat) : Int)) ∧ RW w wr r H g Q cap' W h L p) (fun _ _ _ _ _ _ _ _ t _ => 64 - (intOf t).toNat)
                  case atStart => exact ⟨0, by omega, rfl, ⟨h, rfl, rfl, rfl, rfl, rfl, rfl, rfl, rfl, rfl⟩, HI2.out⟩
                  case round =>
                    clear HI2
                    obtain ⟨y1, rfl⟩ : ∃ y1 : World, y1 = wr := ⟨_, rfl⟩
                    obtain ⟨T, hT, rfl, ⟨v, hv, rfl, rfl, rfl, rfl, rfl, rfl, rfl, rfl⟩, hI⟩ := hrel
                    have HV := hide hv
                    have HVl : Hid (v.length = 8) := hide (by rw [hv, roundsS_length _ _ _ HL.out])
                    have HVw : Hid (Words32 v) := hide (by rw [hv]; exact roundsS_words _ _ _ HW.out)
                    clear hv
                    by_cases hlt : T < 64
                    · as_aux_lemma =>
                        have c0 : decide ((T : Int) < 64) = true := by simp; omega
                        have c0' : (T : Int) < 64 := by omega
                        have ck := hI.base.round hlt
                        have cw := hI.row.word (i := T) (by rw [HLl.out]; exact hlt)
                        have HI := hide hI
                        have q0 : nth v 0 < 4294967296 := HVw.out _
                        have q1 : nth v 1 < 4294967296 := HVw.out _
                        have q2 : nth v 2 < 4294967296 := HVw.out _
                        have q3 : nth v 3 < 4294967296 := HVw.out _
                        have q4 : nth v 4 < 4294967296 := HVw.out _
                        have q5 : nth v 5 < 4294967296 := HVw.out _
                        have q6 : nth v 6 < 4294967296 := HVw.out _
                        have q7 : nth v 7 < 4294967296 := HVw.out _
                        clear hI
                        go_upto_region 29 with fail
                        go_quiet ((go_at_call 152; exact Calls.quiet_of (rot_int _ _ (HVw.out _) (by omega) (by omega) _)))
                        as_aux_lemma =>
                          rw [bigS1_bits (HVw.out _), chref_bits (HVw.out _) (HVw.out _) (HVw.out _), cast_one]
                          obtain ⟨X, hX⟩ : ∃ X, X = add32 (add32 (add32 (add32 (nth v 7) (bigS1 (nth v 4))) (chS (nth v 4) (nth v 5) (nth v 6))) (nth kS T)) (nth L T) := ⟨_, rfl⟩
                          rw [← hX]
                          have HX : Hid (X = oneS (nth kS T) (nth L T) v) := hide (by rw [hX]; rfl)
                          have HI2 := hide (HI.out.drewN nq)
                          obtain ⟨y2, hy2⟩ : ∃ y2, y2 = y1.drewN nq := ⟨_, rfl⟩
                          rw [← hy2] at HI2 ⊢
                          clear hX hy2 HI ck cw
                          go_upto_region 31 with (go_at_call 152; refine (rot_int _ _ (HVw.out _) (by omega) (by omega) _).mono ?_; rintro e wx ⟨rfl, nq', rfl⟩)
                          rw [bigS0_bits (HVw.out _), majref_bits (HVw.out _) (HVw.out _) (HVw.out _), cast_add32]
                          obtain ⟨Y, hY⟩ : ∃ Y, Y = add32 (bigS0 (nth v 0)) (majS (nth v 0) (nth v 1) (nth v 2)) := ⟨_, rfl⟩
                          rw [← hY]
                          have HY : Hid (Y = twoS v) := hide (by rw [hY]; rfl)
                          clear hY
                          as_aux_lemma =>
                            go_wp2_with fail
                            rw [cast_add32, cast_add32]
                            go_roundw
                            case rel =>
                              refine ⟨T + 1, by omega, by go_num, ⟨roundS (nth kS T) (nth L T) v, ?_, ?_, ?_, ?_, ?_, ?_, ?_, ?_, ?_⟩, ?_⟩
                              · rw [roundsS, HV.out]
                              · rw [nth_round0, HX.out, HY.out]
                              · rw [nth_round1]
                              · rw [nth_round2]
                              · rw [nth_round3]
                              · rw [nth_round4, HX.out]
                              · rw [nth_round5]
                              · rw [nth_round6]
                              · rw [nth_round7]
                              · exact HI2.out.drewN _
                            case measure => simp [intOf]; omega
                    · obtain rfl : T = 64 := by omega
                      rw [show ((64 : Nat) : Int) = 64 from rfl]
                      have HI := hide hI
                      clear hI hT hlt
                      go_wp2_with fail
                      rw [← words8 HVl.out]
                      go_loopw [228] (fun i wr => ∃ I : Nat, I ≤ 8 ∧ i = .int .i64 (I : Int) ∧ RW w wr r H g Q cap' W (addUp v I h) L p) (fun i _ => 8 - (intOf i).toNat)
                      case atStart => exact ⟨0, by omega, rfl, HI.out⟩
                      case round =>
                        clear HI
                        obtain ⟨z1, rfl⟩ : ∃ z1 : World, z1 = wr := ⟨_, rfl⟩
                        obtain ⟨I, hI8, rfl, hI⟩ := hrel
                        by_cases hlt : I < 8
                        · have c0 : decide ((I : Int) < 8) = true := by simp; omega
                          have c0' : (I : Int) < 8 := by omega
                          have hix := run_index_words (P := Tryd.prog) 122 121 8 v HVl.out Tryd.underlying122 Tryd.underlying121 (by kernel_rfl) I hlt
                          have ca := hI.base.box.word (i := I) (by rw [addUp_length, HL.out]; exact hlt)
                          have cf := hI.base.box.frozen I
                          have HI := hide hI
                          clear hI
                          go_wp2_with fail
                          rw [cast_add32]
                          go_roundw
                          case rel => exact ⟨I + 1, by omega, by go_num, HI.out.putH I _⟩
                          case measure => simp [intOf]; omega
                        · obtain rfl : I = 8 := by omega
                          rw [show ((8 : Nat) : Int) = 8 from rfl]
                          have HI := hide hI
                          have HN1 : Hid (addUp v 8 h = hashN kS h0S p (m + 1)) := hide (by
                            rw [hashN, ← HH2.out, ← HO.out, ← HC.out, blockS_sofar, ← HLD.out, ← HV.out])
                          rw [HN1.out] at HI
                          have s0 : (64 : Int) ≤ (R : Int) := by omega
                          have s1 : (64 : Int) ≤ (C : Int) := by omega
                          clear hI hI8 hlt
                          go_wp2_with fail
                          refine ⟨⟨m + 1, O + 64, R - 64, C - 64, by omega, ?_, ?_, by omega, ?_, HI.out.txt, HI.out.base⟩, ?_⟩
                          · have := HO.out; omega
                          · have := HRO.out; omega
                          · refine ⟨_, rfl, fun h0 => ?_⟩
                            have : C ≠ 64 := by omega
                            simp [this]
                          · simp [lenV]; omega
            · clear hA
              obtain rfl : R = 0 := by omega
              have hmn : m = nb := by have := HQ.out; omega
              have HBX := hide HI.out.box
              have HFR := hide HI.out.frame
              have hin : (Tryd.prog.info? 122).map (·.size) = some (words h).size := by rw [words_size, HL.out]; kernel_rfl
              have HIN := hide hin
              have HE : Hid (outS h 8 = sumBy kS h0S (bl s)) := hide (by
                unfold sumBy
                rw [HH2.out, hmn, HNB.out, ← HPD.out, bl_length])
              clear hin hmn hm hO hRO hRC HI HG HH2
              go_wp2_with (refine wpList_load_row rfl 122 (.tmp 5) rfl H rfl 122 (words h) (0, 0) _ HBX.out Tryd.underlying122 rfl HIN.out ?_)
              clear HBX HIN
              go_loopw [28, 240] (fun o i wr => ∃ I : Nat, I ≤ 8 ∧ i = .int .i64 (I : Int) ∧ o = .string (ofl (outS h I)) ∧ Below w.heap.size w wr) (fun _ i _ => 8 - (intOf i).toNat)
              case atStart => exact ⟨0, by omega, rfl, rfl, HFR.out⟩
              case round =>
                clear HFR
                obtain ⟨z1, rfl⟩ : ∃ z1 : World, z1 = wr := ⟨_, rfl⟩
                obtain ⟨I, hI8, rfl, rfl, hbel⟩ := hrel
                have HBE := hide hbel
                clear hbel
                obtain ⟨o, ho⟩ : ∃ o, o = ofl (outS h I) := ⟨_, rfl⟩
                have hol : o.size = 4 * I := by rw [ho, ofl_size, outS_length]
                have hol1 : o.size ≤ 32 := by omega
                rw [← ho]
                have HO := hide ho
                clear ho hol
                by_cases hlt : I < 8
                · have c0 : decide ((I : Int) < 8) = true := by simp; omega
                  have c0' : (I : Int) < 8 := by omega
                  have hix := run_index_words (P := Tryd.prog) 122 121 8 h HL.out Tryd.underlying122 Tryd.underlying121 (by kernel_rfl) I hlt
                  obtain ⟨x, hx⟩ : ∃ x, x = nth h I := ⟨_, rfl⟩
                  have hxl : x < 4294967296 := by rw [hx]; exact HW.out I
                  rw [← hx] at hix
                  have HXE := hide hx
                  clear hx
                  have hcv := string_four (P := Tryd.prog) z1 111 9 5 x hxl Tryd.underlying111 Tryd.underlying5 Tryd.underlying9
                  obtain ⟨b, hb⟩ : ∃ b, b = ofl [UInt8.ofNat (x / 16777216), UInt8.ofNat (x / 65536 % 256), UInt8.ofNat (x / 256 % 256), UInt8.ofNat (x % 256)] := ⟨_, rfl⟩
                  have hbl : b.size ≤ 4 := by rw [hb, ofl_size]; simp
                  rw [← hb] at hcv
                  have HBB := hide hb
                  clear hb
                  go_wp2_with fail
                  refine ⟨⟨I + 1, by omega, by go_num, ?_, HBE.out.alloc HBE.out.size _⟩, by simp [intOf]; omega⟩
                  rw [HBB.out]
                  have e : o ++ ofl [UInt8.ofNat (x / 16777216), UInt8.ofNat (x / 65536 % 256), UInt8.ofNat (x / 256 % 256), UInt8.ofNat (x % 256)] = ofl (outS h (I + 1)) := by
                    apply bl_inj
                    rw [outS, ← HXE.out, bl_ofl, HO.out]
                    simp [bl, ofl]
                  rw [e]
                · obtain rfl : I = 8 := by omega
                  rw [show ((8 : Nat) : Int) = 8 from rfl]
                  go_wp2
                  go_ret
                  refine ⟨?_, HBE.out⟩
                  show Ending.returned (Value.string o) = _
                  rw [HO.out, HE.out]
    · have b1 : ((N : Int) % 64 != 56) = true := by simp; omega
      go_wp2_with (at_builtin; refine wpList_append_grow _ rfl (.tmp 43) (.tmp 44) 111 rfl 5 i0 (.int .u8 0) 1 Tryd.underlying111 hi0 hz0 hz1 hz2 rfl (H + 1) _ N (bytesV (preP (bl s) j)) rfl (HG.out.alloc _) ⟨wa.heap.size, 0, none⟩ 0 1 (bytesV [0]) rfl rfl (news_new wa _ _) (bytesV_oneCell _) (by unfold maxLen; omega) (by omega) (by have := HSL.out; simp; omega) ?_; intro v4 w4 hg4 hb4; rw [← bytesV_append, ← preP_succ] at hg4)
      have hl4 : lenV v4 = N + 1 := by obtain ⟨_, _, rfl, _⟩ := hg4; rfl
      have hI4 := (HI.out.alloc (Obj.cells #[Value.int IntKind.u8 0] 5)).kept (row := some g) hb4 (fun k hk => by cases hk; exact g1)
      have HG4 := hide hg4
      have HI4 := hide hI4
      clear hg4 hb4 hI4
      go_roundw
      case rel => exact ⟨j + 1, by omega, by have := HG4.out; rwa [HN.out] at this, HI4.out⟩
      case measure => rw [hl4]; show 65700 - (N + 1) < 65700 - N; have := HN.out; omega
end Go.Proofs.YtmligbaalbbgiabDoor

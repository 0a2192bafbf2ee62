/- The function sum.Sum. Conditions: a text of at most 65536 bytes; the variable sum.rounds holds its numbers. -/
import Derived.Test.YtmligbaalbbgiabDoorProg
import Derived.Test.YtmligbaalbbgiabDoorBase
import Derived.Test.YtmligbaalbbgiabDoorShaT
import Derived.Test.YtmligbaalbbgiabDoorGrow
import Derived.Test.YtmligbaalbbgiabDoorSum2
import Derived.Laws.IdiomStrings
namespace Go.Proofs.YtmligbaalbbgiabDoor
open Go.RowKit

/-- The eight words are at H. -/
structure InS (w wr : World) (H : Nat) (h : List Nat) : Prop where
  arg : Blk wr H 122 (words h)
  rnd : LaidR wr
  bel : Below w.heap.size w wr
  at_ : H = w.heap.size
theorem InS.lt {w wr : World} {H : Nat} {h : List Nat} (b : InS w wr H h) : H + 1 ≤ wr.heap.size := b.arg.lt
theorem InS.drewN {w wr : World} {H : Nat} {h : List Nat} (b : InS w wr H h) (n : Nat) : InS w (wr.drewN n) H h := ⟨b.arg.drewN n, b.rnd.drewN n, below_drewN b.bel n, b.at_⟩
theorem InS.alloc {w wr : World} {H : Nat} {h : List Nat} (b : InS w wr H h) (o : Obj) : InS w (wr.alloc o) H h :=
  ⟨b.arg.alloc o, b.rnd.of_block (Below.heap_alloc wr o _ b.rnd.lt), b.bel.alloc b.bel.size o, b.at_⟩
theorem InS.kept {w wr w1 : World} {H : Nat} {h : List Nat} {row : Option Nat} (b : InS w wr H h) (h0 : 2 < w.heap.size) (hg : wr.grownBy w1 row) (hr : ∀ k, row = some k → H + 1 ≤ k) : InS w w1 H h := by
  have h1 := b.at_
  refine ⟨b.arg.grown hg (fun e => ?_), b.rnd.of_block (hg.block _ b.rnd.lt (fun e => ?_)), b.bel.grown hg b.bel.size (fun k hk => ?_), h1⟩
  · have := hr H e.symm; omega
  · have := hr _ e.symm; omega
  · have := hr k hk; omega
theorem InS.take {w wr w1 : World} {H : Nat} {h h' : List Nat} (b : InS w wr H h) (h0 : 2 < w.heap.size) (hg : wr.grownBy w1 (some H)) (h1 : Blk w1 H 122 (words h')) : InS w w1 H h' := by
  have h2 := b.at_
  exact ⟨h1, b.rnd.of_block (hg.block _ b.rnd.lt (fun e => by injection e; omega)), b.bel.grown hg b.bel.size (fun k hk => by cases hk; omega), h2⟩
theorem info_u8s : (Tryd.prog.info? 5).map (fun i => (i.zero, i.size, i.bytes)) = some (some (.int .u8 0), 1, 1) := by kernel_rfl
/-- A text's bytes, as a slice of the call's own. -/
theorem grow_new (w : World) (s : ByteArray) (e cap B : Nat) (hB : B ≤ w.heap.size) (hc : s.size ≤ cap) : Grow (w.alloc (.cells (bytesRow s cap) e ((bytesRow s cap).size, (bytesRow s cap).size + 1))) B (.slice (some ⟨w.heap.size, 0, none⟩) s.size cap) s.size (bytesV (bl s)) := by
  have hg := heap_alloc_new w (.cells (bytesRow s cap) e ((bytesRow s cap).size, (bytesRow s cap).size + 1))
  have hz : (bytesRow s cap).size = cap := by
    simp only [bytesRow, Array.size_append, Array.size_map, Array.size_replicate]
    have : s.data.size = s.size := rfl
    omega
  refine ⟨w.heap.size, cap, rfl, hB, by simp, hc, by simp [bytesV, bl_length], ?_, fun j hj => ?_⟩
  · intro j u hu
    have hj : j < s.size := by
      have := (List.getElem?_eq_some_iff.1 hu).1
      simpa [bytesV, bl_length] using this
    rw [cell_of_row _ _ j _ _ _ hg, bytesRow_at s cap j hj]
    rw [← hu]
    simp only [bytesV, List.getElem?_map]
    rw [List.getElem?_eq_getElem (by rw [bl_length]; exact hj)]
    rfl
  · rw [cell_of_row _ _ j _ _ _ hg]
    refine ⟨by rw [Array.getElem?_eq_getElem (by omega)]; rfl, ?_⟩
    simp only [World.frozen?, hg]
    simp
    omega

theorem bytesV_one (m : Nat) (h : m < 256) : bytesV [UInt8.ofNat m] = [Value.int .u8 ((m : Nat) : Int)] := by
  simp only [bytesV, List.map_cons, List.map_nil, UInt8.toNat_ofNat']
  rw [Nat.mod_eq_of_lt h]
theorem bytesV_four (x : Nat) (h : x < 4294967296) : bytesV [UInt8.ofNat (x / 16777216), UInt8.ofNat (x / 65536 % 256), UInt8.ofNat (x / 256 % 256), UInt8.ofNat (x % 256)]
    = [Value.int .u8 ((x : Int) / 16777216), Value.int .u8 ((x : Int) / 65536 % 256), Value.int .u8 ((x : Int) / 256 % 256), Value.int .u8 ((x : Int) % 256)] := by
  simp only [bytesV, List.map_cons, List.map_nil, UInt8.toNat_ofNat']
  rw [Nat.mod_eq_of_lt (show x / 16777216 < 2 ^ 8 by omega), Nat.mod_eq_of_lt (show x / 65536 % 256 < 2 ^ 8 by omega), Nat.mod_eq_of_lt (show x / 256 % 256 < 2 ^ 8 by omega), Nat.mod_eq_of_lt (show x % 256 < 2 ^ 8 by omega)]
  simp

/-- 64 bytes of such a slice, as a text. -/
theorem piece_str {P : Program} {w : World} {B g n cap : Nat} {l : List UInt8} (h : Grow w B (.slice (some ⟨g, 0, none⟩) n cap) n (bytesV l)) (I c : Nat) (hI : I + 64 ≤ n) (src dst e : Nat) (hs : P.underlying src = some (.slice e)) (he : P.underlying e = some (.int .u8)) (hd : P.underlying dst = some .string) :
    (convert src dst (.slice (some ⟨g, I, none⟩) 64 c)).run P w = .ok (.string (ofl ((l.drop I).take 64))) w := by
  obtain ⟨g', cap', e1, _, _, _, h4, h5, _⟩ := h
  cases e1
  have hl : l.length = n := by simpa [bytesV] using h4
  rw [run_convert_bytes_arg (P := P) w src e hs he g I 64 c (((l.drop I).take 64).map fun x => (x.toNat : Int)) (by simp; omega) (fun i hi => ?_) dst hd, strOfNums_bytes]
  have hb := h5 (I + i) (.int .u8 ((l[I + i]'(by omega)).toNat : Int)) (by simp [bytesV, List.getElem?_map, List.getElem?_eq_getElem (show I + i < l.length by omega)])
  rw [hb]
  congr 2
  simp [List.getD, hi, List.getElem?_drop, List.getElem?_eq_getElem (show I + i < l.length by omega)]
def lenV : Value → Nat
  | .slice _ n _ => n
  | _ => 0

set_option maxRecDepth 100000 in
set_option maxHeartbeats 4000000 in
theorem sum_any (s : ByteArray) (hs : s.size ≤ 65536) (w : World) (hR : LaidR w) :
    Calls Tryd.prog 126 #[.string s] w fun e w' => e = .returned (.string (ofl (sumBy kS h0S (bl s)))) ∧ Below w.heap.size w w' := by
  obtain ⟨i0, hi0, hz0, hz1, hz2⟩ := info_parts info_u8s
  have h0l := hR.lt
  have HI : Hid (InS w (w.alloc (.cells (words h0S) 122)) w.heap.size h0S) := hide ⟨Blk.new _ _ _, hR.of_block (Below.heap_alloc w _ _ h0l), (Below.refl _ _).alloc (Nat.le_refl _) _, rfl⟩
  obtain ⟨H, hH⟩ : ∃ H, H = w.heap.size := ⟨_, rfl⟩
  obtain ⟨W1, hW1⟩ : ∃ W1, W1 = w.alloc (.cells (words h0S) 122) := ⟨_, rfl⟩
  have hsz : W1.heap.size = H + 1 := by rw [hW1, hH]; simp
  rw [← hH, ← hW1] at HI
  have HH := hide hH
  have HW1 := hide hW1
  have H0L := hide h0l
  have HSZ := hide hsz
  have hcv := run_bytes_of_string (P := Tryd.prog) W1 9 111 5 s Tryd.underlying9 Tryd.underlying111 Tryd.underlying5
  clear hH hW1 h0l hsz hR
  go_enter Tryd.func126, Tryd.ntmps126
  go_upto_region 2 with fail
  rw [← HH.out]
  rw [show w.alloc (Obj.cells #[Value.int IntKind.u32 1779033703, Value.int IntKind.u32 3144134277, Value.int IntKind.u32 1013904242, Value.int IntKind.u32 2773480762, Value.int IntKind.u32 1359893119, Value.int IntKind.u32 2600822924,
      Value.int IntKind.u32 528734635, Value.int IntKind.u32 1541459225] 122) = W1 from HW1.out.symm]
  have HG2 := hide ((grow_new W1 s 5 (grownCap W1 s.size 0 5) (H + 1) (by rw [HSZ.out]; exact Nat.le_refl _) (grownCap_ge W1 s.size 0 5)).drewN 1)
  have HI2 := hide ((HI.out.alloc (.cells (bytesRow s (grownCap W1 s.size 0 5)) 5 ((bytesRow s (grownCap W1 s.size 0 5)).size, (bytesRow s (grownCap W1 s.size 0 5)).size + 1))).drewN 1)
  go_upto_region 3 with fail
  obtain ⟨W2, hW2⟩ : ∃ W2, W2 = (W1.alloc (.cells (bytesRow s (grownCap W1 s.size 0 5)) 5 ((bytesRow s (grownCap W1 s.size 0 5)).size, (bytesRow s (grownCap W1 s.size 0 5)).size + 1))).drewN 1 := ⟨_, rfl⟩
  rw [← hW2] at HG2 HI2
  rw [show ((W1.alloc (.cells (bytesRow s (grownCap W1 s.size 0 5)) 5 ((bytesRow s (grownCap W1 s.size 0 5)).size, (bytesRow s (grownCap W1 s.size 0 5)).size + 1))).drew) = W2 from hW2.symm]
  clear hW2 hcv HI HW1
  have HSL := hide HI2.out.lt
  go_wp2_with (at_builtin; refine wpList_append_grow _ rfl (.tmp 14) (.tmp 15) 111 rfl 5 i0 (.int .u8 0) 1 Tryd.underlying111 hi0 hz0 hz1 hz2 rfl (H + 1) _ s.size (bytesV (bl s)) rfl (HG2.out.alloc _) ⟨W2.heap.size, 0, none⟩ 0 1 (bytesV [128]) rfl rfl (news_new W2 _ _) (bytesV_oneCell _) (by unfold maxLen; omega) (by omega) (by have := HSL.out; simp; omega) ?_; intro v3 w3 hg3 hb3; rw [← bytesV_append] at hg3)
  have HI3 : Hid (InS w w3 H h0S) := hide ((HI2.out.alloc _).kept H0L.out (row := some W1.heap.size) hb3 (fun k hk => by cases hk; rw [HSZ.out]; exact Nat.le_refl _))
  have HG3 := hide hg3
  clear hb3 hg3 HG2 HI2
  go_loopw [4] (fun v wr => ∃ j, j ≤ padZ s.size ∧ Grow wr (H + 1) v (s.size + 1 + j) (bytesV (preP (bl s) j)) ∧ InS w wr H h0S) (fun v _ => 65700 - lenV v)
  case atStart => exact ⟨0, by omega, by have := HG3.out; simpa [preP] using this, HI3.out⟩
  case round =>
    clear HI3 HG3
    obtain ⟨wa, rfl⟩ : ∃ wa : World, wa = wr := ⟨_, rfl⟩
    obtain ⟨j, hj, hg, hI⟩ := hrel
    have hjl := padZ_lt s.size
    have hjp := padZ_at s.size j hj
    have HG := hide hg
    have HI := hide hI
    obtain ⟨g, cap, rfl, g1, _⟩ := hg
    obtain ⟨N, hN⟩ : ∃ N, N = s.size + 1 + j := ⟨_, rfl⟩
    rw [← hN] at HG hjp ⊢
    have HN := hide hN
    have hNl : N ≤ 65700 := by omega
    have HSL := hide HI.out.lt
    clear hI hN
    by_cases hz : j = padZ s.size
    · have b1 : ((N : Int) % 64 != 56) = false := by simp; omega
      have HZ : Hid (N = s.size + 1 + padZ s.size) := hide (by rw [HN.out, hz])
      rw [hz] at HG
      clear hj hjp hz hjl
      obtain ⟨V, hV⟩ : ∃ V, V = Value.slice (some { block := g, off := 0 }) N cap := ⟨_, rfl⟩
      rw [← hV] at HG
      have HV := hide hV
      clear hV
      go_wp2_with fail
      obtain ⟨X, hX⟩ : ∃ X, X = 8 * s.size := ⟨_, rfl⟩
      rw [show ((s.size : Int) * 8) = ((X : Nat) : Int) from by omega]
      have hXl : X < 18446744073709551616 := by omega
      have HX := hide hX
      obtain ⟨P0, hP0⟩ : ∃ P, P = preP (bl s) (padZ s.size) := ⟨_, rfl⟩
      rw [← hP0] at HG
      have HP := hide hP0
      rw [← HV.out]
      clear hX hP0
      go_loopw [4, 6] (fun v i wr => ∃ k : Nat, k ≤ 8 ∧ i = .int .i64 (7 - (k : Int)) ∧ Grow wr (H + 1) v (N + k) (bytesV (P0 ++ be8U X k)) ∧ InS w wr H h0S) (fun _ i _ => (intOf i + 1).toNat)
      case atStart => exact ⟨0, by omega, rfl, by have := HG.out; simpa [be8U] using this, HI.out⟩
      case round =>
        clear HI HG HSL
        obtain ⟨wb, rfl⟩ : ∃ wb : World, wb = wr := ⟨_, rfl⟩
        obtain ⟨k, hk, rfl, hg, hI⟩ := hrel
        have HG := hide hg
        have HI := hide hI
        have HSL := hide HI.out.lt
        clear hI hg
        by_cases hk8 : k < 8
        · have b0 : decide ((0 : Int) ≤ 7 - (k : Int)) = true := by simp; omega
          have b2 : (0 : Int) ≤ 8 * (7 - (k : Int)) := by omega
          have b3 : 8 * (7 - (k : Int)) < 64 := by omega
          have b4 : (8 * (7 - (k : Int))).toNat = 8 * (7 - k) := by omega
          have e1 : bytesV [UInt8.ofNat (X / 2 ^ (8 * (7 - k)) % 256)] = [Value.int .u8 ((X : Int) / 2 ^ (8 * (7 - k)) % 256)] := by
            rw [bytesV_one _ (Nat.mod_lt _ (by omega))]
            simp
          have E1 := hide e1
          clear e1
          go_wp2_with (at_builtin; refine wpList_append_grow _ rfl (.tmp 32) (.tmp 38) 111 rfl 5 i0 (.int .u8 0) 1 Tryd.underlying111 hi0 hz0 hz1 hz2 rfl (H + 1) _ (N + k) (bytesV (P0 ++ be8U X k)) rfl (HG.out.alloc _) ⟨wb.heap.size, 0, none⟩ 0 1 [Value.int .u8 ((X : Int) / 2 ^ (8 * (7 - k)) % 256)] rfl rfl (news_new wb _ _) (by rw [← E1.out]; exact bytesV_oneCell _) (by unfold maxLen; omega) (by omega) (by have := HSL.out; simp; omega) ?_; intro v4 w4 hg4 hb4; rw [← E1.out, ← bytesV_append] at hg4)
          have hI4 := (HI.out.alloc _).kept H0L.out hb4 (fun q hq => (HG.out.lt q hq).1)
          have HG4 := hide hg4
          have HI4 := hide hI4
          clear hg4 hb4 hI4
          go_roundw
          case rel => exact ⟨k + 1, by omega, by congr 1; omega, by have := HG4.out; rwa [List.append_assoc] at this, HI4.out⟩
          case measure => simp [intOf]; omega
        · obtain rfl : k = 8 := by omega
          rw [show (7 : Int) - ((8 : Nat) : Int) = -1 from rfl]
          obtain ⟨g', cap', rfl, r1, r2, r3, r4, r5, r6⟩ := HG.out
          obtain ⟨Q, hQ⟩ : ∃ Q, Q = N + 8 := ⟨_, rfl⟩
          have hQ64 : Q = 64 * ((s.size + 72) / 64) := by
            have := HZ.out
            unfold padZ at this
            omega
          rw [← hQ] at HG r3 ⊢
          have hPP : P0 ++ be8U X 8 = padL (bl s) := by
            unfold padL
            rw [bl_length, ← HP.out, ← HX.out]
          rw [hPP] at HG
          have hQl : Q ≤ 65800 := by omega
          have HQ := hide hQ64
          clear hQ hQ64 r1 r2 r4 r5 r6 hk hk8 hPP b1 hNl
          go_wp2_with fail
          go_loopw [7] (fun i wr => ∃ m : Nat, m ≤ (s.size + 72) / 64 ∧ i = .int .i64 ((64 * m : Nat) : Int) ∧ Grow wr (H + 1) (.slice (some ⟨g', 0, none⟩) Q cap') Q (bytesV (padL (bl s))) ∧ InS w wr H (hashN kS h0S (padL (bl s)) m)) (fun i _ => 65900 - (intOf i).toNat)
          case atStart => exact ⟨0, by omega, rfl, HG.out, HI.out⟩
          case round =>
            clear HI HG HSL
            obtain ⟨wc, rfl⟩ : ∃ wc : World, wc = wr := ⟨_, rfl⟩
            obtain ⟨m, hm, rfl, hg, hI⟩ := hrel
            obtain ⟨I, hI0⟩ : ∃ I, I = 64 * m := ⟨_, rfl⟩
            rw [← hI0]
            have HG := hide hg
            have HI := hide hI
            have HI0 := hide hI0
            by_cases hlt : I < Q
            · have hIQ : I + 64 ≤ Q := by have := HQ.out; omega
              have hcv := piece_str (P := Tryd.prog) hg I (cap' - I) hIQ 111 9 5 Tryd.underlying111 Tryd.underlying5 Tryd.underlying9
              have hIl : I ≤ 65800 := by omega
              have b0 : (I : Int) + 64 ≤ (cap' : Int) := by omega
              have b1 : decide (I < Q) = true := by simpa using hlt
              clear hg hI hI0 hm
              obtain ⟨S0, hS0⟩ : ∃ S, S = ofl (((padL (bl s)).drop I).take 64) := ⟨_, rfl⟩
              have hSs : S0.size = 64 := by
                rw [hS0, ofl_size, List.length_take, List.length_drop, padL_length, bl_length, ← HQ.out]
                omega
              rw [← hS0] at hcv
              have HNE : Hid ((Value.slice (some ⟨g', 0, none⟩) Q cap').ownBlock ≠ some H) := by
                refine hide (fun e => ?_)
                have h9 := HG.out.lt g' rfl
                have e2 : g' = H := by simpa [Value.ownBlock] using e
                omega
              have HS0 := hide hS0
              have HSs := hide hSs
              have HN0 : Hid (2 ≠ H) := hide (by have := H0L.out; have := HH.out; omega)
              clear hS0 hSs
              go_wp2_with (go_at_call 148; go_loud (refine (block_any H (hashN kS h0S (padL (bl s)) m) S0 HSs.out (by rw [hashN_length]; rfl) (hashN_words _ _ _ h0S_words) wc HI.out.arg HI.out.rnd HN0.out).mono ?_; rintro e w5 ⟨rfl, hb5, hg5⟩); have HI5 := hide (HI.out.take H0L.out hg5 hb5); have HG5 := hide (HG.out.kept hg5 HNE.out); clear hb5 hg5)
              go_roundw
              case rel =>
                refine ⟨m + 1, by have := HI0.out; have := HQ.out; omega, by have := HI0.out; congr 1; omega, HG5.out, ?_⟩
                have h9 := HI5.out
                rw [HS0.out, bl_ofl, HI0.out] at h9
                exact h9
              case measure => simp [intOf]; omega
            · obtain rfl : m = (s.size + 72) / 64 := by have := HI0.out; have := HQ.out; omega
              have b1 : decide (I < Q) = false := by simpa using hlt
              have HBL := hide HI.out.arg
              obtain ⟨h9, hh9⟩ : ∃ h9, h9 = hashN kS h0S (padL (bl s)) ((s.size + 72) / 64) := ⟨_, rfl⟩
              rw [← hh9] at HI HBL
              have HH9 := hide hh9
              have HL9 : Hid (h9.length = 8) := hide (by rw [hh9, hashN_length]; rfl)
              have HW9 : Hid (Words32 h9) := hide (by rw [hh9]; exact hashN_words _ _ _ h0S_words)
              have hi : (Tryd.prog.info? 122).map (·.size) = some (words h9).size := by rw [words_size, HL9.out]; kernel_rfl
              have HIN := hide hi
              clear hi hh9 hlt hg hI hm hI0
              go_wp2_with (refine wpList_load_row rfl 122 (.tmp 3) rfl H rfl 122 (words h9) (0, 0) _ HBL.out Tryd.underlying122 rfl HIN.out ?_)
              go_loopw [8, 54] (fun v i wq => ∃ k : Nat, k ≤ 8 ∧ i = .int .i64 (k : Int) ∧ Below w.heap.size w wq ∧ H + 1 ≤ wq.heap.size ∧ wq.ownsRow (H + 1) 5 1 v (4 * k) (bytesV (outS h9 k))) (fun _ i _ => 8 - (intOf i).toNat)
              case atStart => exact ⟨0, by omega, rfl, HI.out.bel, HI.out.lt, World.ownsRow_nil _ _ _ _⟩
              case round =>
                obtain ⟨wd, rfl⟩ : ∃ wd : World, wd = wr := ⟨_, rfl⟩
                obtain ⟨k, hk, rfl, hbel, hsl, hown⟩ := hrel
                by_cases hlt : k < 8
                · have hix := run_index_words (P := Tryd.prog) 122 121 8 h9 HL9.out Tryd.underlying122 Tryd.underlying121 (by kernel_rfl) k hlt
                  have c0 : decide ((k : Int) < 8) = true := by simp; omega
                  obtain ⟨x, hx⟩ : ∃ x, x = nth h9 k := ⟨_, rfl⟩
                  rw [← hx] at hix
                  have HX9 := hide hx
                  have hxl : x < 4294967296 := by rw [hx]; exact HW9.out k
                  clear hx
                  have E4 := hide (bytesV_four x hxl)
                  have HBE := hide hbel
                  clear hbel
                  have HSL := hide hsl
                  go_wp2_with (at_builtin; refine wpList_append_own _ rfl (.tmp 57) (.tmp 69) 111 rfl (H + 1) 5 i0 (.int .u8 0) 1 1 Tryd.underlying111 hi0 hz0 hz1 hz2 rfl (by decide) _ _ _ rfl (hown.alloc _) ⟨wd.heap.size, 0, none⟩ 4 4 [Value.int .u8 ((x : Int) / 16777216), Value.int .u8 ((x : Int) / 65536 % 256), Value.int .u8 ((x : Int) / 256 % 256), Value.int .u8 ((x : Int) % 256)] rfl rfl (news_new wd _ _) (by rw [← E4.out]; exact bytesV_oneCell _) (by unfold maxLen; omega) (by omega) (by have := HSL.out; simp; omega) ?_; intro v6 w6 hr6 hg6 _; rw [← E4.out, ← bytesV_append] at hr6)
                  have hb6 : Below w.heap.size w w6 := (HBE.out.alloc HBE.out.size _).grown hg6 (by have := HBE.out.size; simp; omega) (fun q hq => by have := (hown.lt q hq).1; have := HH.out; omega)
                  have hs6 : H + 1 ≤ w6.heap.size := Nat.le_trans HSL.out (Nat.le_trans (by simp) hg6.size)
                  clear hg6 hown hix hsl
                  have HR6 := hide hr6
                  clear hr6
                  go_wp2_with fail
                  go_roundw
                  case rel => exact ⟨k + 1, by omega, by go_num, hb6, hs6, by have := HR6.out; rw [HX9.out] at this; exact this⟩
                  case measure => simp [intOf]; omega
                · obtain rfl : k = 8 := by omega
                  rw [show ((8 : Nat) : Int) = 8 from rfl]
                  have hcv := run_string_own (P := Tryd.prog) (src := 111) (dst := 9) Tryd.underlying111 Tryd.underlying5 Tryd.underlying9 hown
                  clear hk hlt
                  go_wp2
                  go_ret
                  refine ⟨?_, hbel⟩
                  show Ending.returned (Value.string (ofl (outS h9 8))) = _
                  rw [HH9.out]
                  unfold sumBy
                  rw [bl_length]
    · have b1 : ((N : Int) % 64 != 56) = true := by simp; omega
      go_wp2_with (at_builtin; refine wpList_append_grow _ rfl (.tmp 21) (.tmp 22) 111 rfl 5 i0 (.int .u8 0) 1 Tryd.underlying111 hi0 hz0 hz1 hz2 rfl (H + 1) _ N (bytesV (preP (bl s) j)) rfl (HG.out.alloc _) ⟨wa.heap.size, 0, none⟩ 0 1 (bytesV [0]) rfl rfl (news_new wa _ _) (bytesV_oneCell _) (by unfold maxLen; omega) (by omega) (by have := HSL.out; simp; omega) ?_; intro v4 w4 hg4 hb4; rw [← bytesV_append, ← preP_succ] at hg4)
      have hl4 : lenV v4 = N + 1 := by obtain ⟨_, _, rfl, _⟩ := hg4; rfl
      have hI4 := (HI.out.alloc (Obj.cells #[Value.int IntKind.u8 0] 5)).kept H0L.out (row := some g) hb4 (fun k hk => by cases hk; exact g1)
      have HG4 := hide hg4
      have HI4 := hide hI4
      clear hg4 hb4 hI4
      go_roundw
      case rel => exact ⟨j + 1, by omega, by have := HG4.out; rwa [HN.out] at this, HI4.out⟩
      case measure => rw [hl4]; show 65700 - (N + 1) < 65700 - N; have := HN.out; omega
end Go.Proofs.YtmligbaalbbgiabDoor

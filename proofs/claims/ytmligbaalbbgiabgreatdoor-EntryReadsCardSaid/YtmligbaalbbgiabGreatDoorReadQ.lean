/- The reference's Parse. Conditions: the text is of at most 65536 bytes; the variables hold what is laid in them. -/
import Derived.Test.YtmligbaalbbgiabGreatDoorReadF
namespace Go.Proofs.YtmligbaalbbgiabGreatDoor
open Go.RowKit

/-- What comes of any text, beside an error or none. -/
theorem atoi_sat (t : ByteArray) (ht : t.size ≤ 281474976710656) {w : World} (h : LaidN w) : Calls Tryz.prog 31 #[.string t] w fun e w' => ∃ er, e = .returned (.tuple #[.int .i64 (satI (bl t)), er]) ∧ Below w.heap.size w w' := by
  unfold satI
  rcases num_cases (Lib.atoiAll (bl t)) with ⟨v, hc⟩ | hc | hc
  · rw [hc]
    refine (atoi_ok t ht v hc w).mono ?_
    rintro e w' ⟨rfl, hb⟩
    exact ⟨_, rfl, hb⟩
  · obtain ⟨tp, p, hv⟩ := h.synt
    refine (Go.Proofs.Tryz.strconv_Atoi_syntax_var t ht hc tp p w hv).mono ?_
    rintro e w' ⟨N, rfl, -, -, hb⟩
    rw [hc]
    exact ⟨_, rfl, hb⟩
  · obtain ⟨tp, p, hv⟩ := h.rng
    refine (Go.Proofs.Tryz.strconv_Atoi_range_var t ht hc tp p w hv).mono ?_
    rintro e w' ⟨N, rfl, -, -, hb⟩
    rw [hc]
    exact ⟨_, rfl, hb⟩
theorem take_line {LS : List (List UInt8)} {I : Nat} {x : List UInt8} (h : LS[I]? = some x) : (LS.take (I + 1)).map lineR = (LS.take I).map lineR ++ [lineR x] := by
  rw [List.take_add_one, h, Option.toList_some, List.map_append]
  rfl

set_option maxRecDepth 100000 in
set_option maxHeartbeats 8000000 in
theorem refparse_any (s : ByteArray) (hs : s.size ≤ 65536) {w : World} (hL : LaidN w) :
    Calls Tryz.prog 17 #[.string s] w fun e w' => Below w.heap.size w w' ∧
      ((parseP (bl s) = none ∧ e = .returned (.tuple #[.slice none 0 0, .int .i64 3])) ∨
       (∃ l A k c, parseP (bl s) = some (l.map FileD.bare) ∧ FilesAt w' A k l ∧ e = .returned (.tuple #[.slice A k c, .int .i64 0]))) := by
  obtain ⟨LS, hLS⟩ : ∃ LS, LS = cutL 10 (bl s) := ⟨_, rfl⟩
  obtain ⟨M, hM⟩ : ∃ M, LS.length = M + 1 := by
    cases hc : LS with
    | nil => exact absurd (hLS ▸ hc) (cutL_ne _ _)
    | cons a r => exact ⟨r.length, rfl⟩
  have hMs : M ≤ 65536 := by
    have h1 := cutL_length 10 (bl s)
    have h2 : (bl s).count 10 ≤ (bl s).length := List.count_le_length
    rw [bl_length] at h2
    rw [← hLS, hM] at h1
    omega
  have hlen : ∀ x ∈ LS, x.length ≤ 65536 := fun x hx => by
    rw [hLS] at hx
    have := cutL_len 10 (bl s) x hx
    rw [bl_length] at this
    omega
  obtain ⟨N1, hN1⟩ : ∃ N1, N1 = LS.length := ⟨_, rfl⟩
  have hSP := split_blk s 10 (by omega) hL
  rw [← hLS, ← hN1] at hSP
  have HSP := hide hSP
  have HL := hide hL
  have HLS := hide hLS
  have HLN := hide hlen
  have hNM : N1 = M + 1 := hN1.trans hM
  have HN1 := hide hN1
  have k1 : wrap64 ((N1 : Int) - 1) = (M : Int) := by simp only [wrap64]; omega
  have k2 : (0 : Int) ≤ (M : Int) := by omega
  have k3 : (M : Int) ≤ (N1 : Int) := by omega
  obtain ⟨L0, hL0⟩ : ∃ L0, L0 = w.heap.size := ⟨_, rfl⟩
  rw [← hL0] at HSP
  have HL0 := hide hL0
  have HNM := hide hNM
  clear hNM hLS hM hlen hSP hL hN1 hL0
  go_enter Tryz.func17, Tryz.ntmps17
  go_upto_region 4 with (go_at_call 30; refine HSP.out.mono ?_; rintro e wL ⟨rfl, hbk, hbl⟩; have HBK := hide hbk; have HBL := hide hbl; clear hbk hbl)
  rw [k1]
  obtain ⟨b, hb⟩ : ∃ b, b = wL.heap.size := ⟨_, rfl⟩
  have HBB := hide hb
  have hLb : L0 < b := by rw [hb]; exact HBK.out.lt
  clear hb
  go_loopw [4, 23] (fun v iv wr => ∃ (I : Nat) (out : List FileD), iv = .int .i64 (I : Int) ∧ I ≤ M ∧ LR wr b v out ∧ out.map FileD.bare = (LS.take I).map lineR ∧ out.length = I ∧ Below wL.heap.size wL wr ∧
    ∀ x ∈ out, x.name.size ≤ 9223372036854775807 ∧ x.cells.length ≤ 9223372036854775807 ∧ ∀ k ∈ x.cells, -9223372036854775808 ≤ k ∧ k ≤ 9223372036854775807) (fun _ iv _ => M - (intOf iv).toNat)
  case atStart => exact ⟨0, [], rfl, by omega, LR.nil _ _, rfl, rfl, Below.refl _ _, fun x hx => by cases hx⟩
  case round =>
    obtain ⟨I, out, rfl, hI, hLR, hmap, hol, hbW, hwf⟩ := hrel
    by_cases hlt : I < M
    · have d0 : decide (I < M) = true := by simpa using hlt
      have hIl : I < LS.length := by rw [← HN1.out, HNM.out]; omega
      obtain ⟨x, hx⟩ : ∃ x, x = LS[I] := ⟨_, rfl⟩
      have hlx : LS[I]? = some x := by rw [List.getElem?_eq_getElem hIl, hx]
      have hxs := HLN.out x (List.mem_of_getElem? hlx)
      have q0 : wr.cell? ⟨L0, I, none⟩ = some (.string (ofl x)) := by
        have h1 := (HBK.out.below hbW HBK.out.lt).cell I
        rw [h1]
        simp [hlx]
      obtain ⟨t, ht⟩ : ∃ t, t = ofl x := ⟨_, rfl⟩
      rw [← ht] at q0
      have htn : t.size ≤ 65536 := by rw [ht, ofl_size]; exact hxs
      have hmn := take_line hlx
      obtain ⟨ws, hws⟩ : ∃ ws, ws = cutL 32 x := ⟨_, rfl⟩
      have hcut : cutL 32 (bl (t ++ ⟨#[32]⟩)) = ws ++ [[]] := by
        have h1 : bl (t ++ ⟨#[32]⟩) = x ++ [32] := by rw [bl_app, ht, bl_ofl]; rfl
        rw [h1, cutL_snoc, hws]
      have hwl : ∀ y ∈ ws, y.length ≤ 65536 := fun y hy => by
        rw [hws] at hy
        have := cutL_len 32 x y hy
        omega
      obtain ⟨N0, w0, hw0⟩ : ∃ N0 w0, ws = N0 :: w0 := by
        cases hc : ws with
        | nil => exact absurd (hws ▸ hc) (cutL_ne _ _)
        | cons a r => exact ⟨a, r, rfl⟩
      obtain ⟨n2, hn2⟩ : ∃ n2, n2 = w0.length := ⟨_, rfl⟩
      have hn2s : n2 ≤ 65536 := by
        have h1 := cutL_length 32 x
        have h2 : x.count 32 ≤ x.length := List.count_le_length
        rw [← hws, hw0, List.length_cons] at h1
        omega
      have hts : (t ++ ⟨#[32]⟩ : ByteArray).size < 4294967281 := by rw [← bl_length, bl_app, List.length_append, bl_length]; simp [bl]; omega
      have hww : Below w.heap.size w wr := by rw [← HL0.out]; exact HBL.out.trans (hbW.mono (by have := HBB.out; omega))
      have hlaid : LaidN wr := HL.out.below hww
      have hSP := split_blk (t ++ ⟨#[32]⟩) 32 hts hlaid
      obtain ⟨m1, hm1⟩ : ∃ m1, m1 = (ws ++ [[]]).length := ⟨_, rfl⟩
      rw [hcut, ← hm1] at hSP
      have hm2 : m1 = n2 + 2 := by rw [hm1, hw0, hn2]; simp
      have HSP2 := hide hSP
      have HX := hide hx
      have HM2 := hide hm2
      have HWW := hide hww
      have HLX := hide hlx
      have HT := hide ht
      have HWS := hide hws
      have HW0 := hide hw0
      have HN2 := hide hn2
      have HWL := hide hwl
      have HMN := hide hmn
      have HLR := hide hLR
      have HMAP := hide hmap
      have HOL := hide hol
      have HBW := hide hbW
      have HWF := hide hwf
      clear hx hm2 hww hlaid hlx ht hws hcut hwl hw0 hn2 hSP hm1 hLR hmap hol hbW hwf hmn hts
      go_upto_region 7 with (go_at_call 30; refine HSP2.out.mono ?_; rintro e w2 ⟨rfl, hbk, hbl⟩; have HK2 := hide hbk; have HB2 := hide hbl; clear hbk hbl)
      obtain ⟨G, hG⟩ : ∃ G, G = wr.heap.size := ⟨_, rfl⟩
      rw [← hG] at HK2
      rw [← hG]
      have HG := hide hG
      clear hG q0
      have hGl : G < w2.heap.size := HK2.out.lt
      have c0 : w2.cell? ⟨G, 0, none⟩ = some (.string (ofl N0)) := by
        rw [HK2.out.cell 0, HW0.out]
        rfl
      have i0 : (0 : Int) < (m1 : Int) := by have := HM2.out; omega
      have i1 : (1 : Int) < (m1 : Int) := by have := HM2.out; omega
      go_upto_region 8 with fail
      obtain ⟨X, hX⟩ : ∃ X, X = w2.heap.size := ⟨_, rfl⟩
      obtain ⟨W3, hW3⟩ : ∃ W3, W3 = w2.alloc (.cells #[.string (ofl N0), .int .i64 0, .slice none 0 0] 44) := ⟨_, rfl⟩
      have hF : Blk W3 X 44 #[.string (ofl N0), .int .i64 0, .slice none 0 0] := by rw [hW3, hX]; exact Blk.new _ _ _
      have hb3 : Below X w2 W3 := by rw [hW3, hX]; exact (Below.refl _ _).alloc (Nat.le_refl _) _
      rw [← hW3, ← hX]
      rw [← hX] at hGl
      have hsX : wr.heap.size ≤ X := by rw [hX]; exact HB2.out.size
      have hup : ∀ {V : World}, Below X w2 V → Below wr.heap.size wr V := fun h => HB2.out.trans (h.mono hsX)
      obtain ⟨t1, ht1⟩ : ∃ t1, t1 = ofl (w0.headD []) := ⟨_, rfl⟩
      have hwc : ∀ {V : World}, Below X w2 V → ∀ j, V.cell? ⟨G, j, none⟩ = (((ws ++ [[]]).map fun l => Value.string (ofl l)).toArray)[j]? := fun h j => by
        rw [hX] at h
        exact (HK2.out.below h HK2.out.lt).cell j
      have c1 : W3.cell? ⟨G, 1, none⟩ = some (.string t1) := by
        rw [hwc hb3, HW0.out, ht1]
        cases w0 with
        | nil => rfl
        | cons a r => rfl
      have h1n : t1.size ≤ 281474976710656 := by
        rw [ht1, ofl_size]
        cases hc : w0 with
        | nil => simp
        | cons a r =>
          have := HWL.out a (by rw [HW0.out, hc]; simp)
          simp
          omega
      have HXX := hide hX
      have HF := hide hF
      have HB3 := hide hb3
      have hlaid := HL.out.below (below_step HWW.out (hup hb3))
      have HAT := hide (atoi_sat t1 h1n hlaid)
      have HT1 := hide ht1
      obtain ⟨sz, hsz⟩ : ∃ sz, sz = satI (bl t1) := ⟨_, rfl⟩
      rw [← hsz] at HAT
      have HSZ := hide hsz
      clear hX hW3 hF hb3 ht1 h1n hlaid hsz c0
      obtain ⟨n3, hn3⟩ : ∃ n3, n3 = n2 + 1 := ⟨_, rfl⟩
      have k4 : wrap64 ((m1 : Int) - 1) = (n3 : Int) := by have := HM2.out; simp only [wrap64]; omega
      have HN3 := hide hn3
      clear hn3
      go_upto_region 10 with (go_at_call 31; refine HAT.out.mono ?_; rintro e w4 ⟨er, rfl, hb4⟩; have HF4 := hide (HF.out.below hb4 HF.out.lt); have HB4 := hide (HB3.out.trans (hb4.mono (by have := HF.out.lt; omega))); have r1 := HF4.out.cell 1; have f1 := HF4.out.frozen 1; clear hb4)
      obtain ⟨W5, hW5⟩ : ∃ W5, W5 = w4.setCell ⟨X, 1, none⟩ (.int .i64 sz) := ⟨_, rfl⟩
      have hF5 : Blk W5 X 44 #[.string (ofl N0), .int .i64 sz, .slice none 0 0] := by rw [hW5]; exact HF4.out.set_ 1 _
      have hb5 : Below X w2 W5 := by rw [hW5]; exact HB4.out.setCell (Nat.le_refl _) _
      rw [← hW5]
      obtain ⟨cs, hcs⟩ : ∃ cs, cs = w0.tail := ⟨_, rfl⟩
      obtain ⟨p, hp⟩ : ∃ p, p = cs.length := ⟨_, rfl⟩
      have hpn : p = n2 - 1 := by rw [hp, hcs, HN2.out, List.length_tail]
      have hps : p ≤ 65536 := by omega
      have hwj : ∀ j, j < p → (((ws ++ [[]]).map fun l => Value.string (ofl l)).toArray)[j + 2]? = some (.string (ofl (cs.getD j []))) := fun j hj => by
        have hjc : j < cs.length := by omega
        have h1 : w0[j + 1]? = some (cs.getD j []) := by
          rw [← List.getElem?_tail, ← hcs, List.getElem?_eq_getElem hjc]
          simp [List.getD, hjc]
        have hj2 : j + 1 < w0.length := (List.getElem?_eq_some_iff.1 h1).1
        rw [HW0.out]
        simp only [List.getElem?_toArray, List.getElem?_map, List.cons_append, List.getElem?_cons_succ]
        rw [List.getElem?_append_left hj2, h1]
        rfl
      have hcl : ∀ y ∈ cs, y.length ≤ 65536 := fun y hy => HWL.out y (by rw [HW0.out]; exact List.mem_cons_of_mem _ (List.mem_of_mem_tail (hcs ▸ hy)))
      have HCS := hide hcs
      have HP := hide hp
      have HWJ := hide hwj
      have HCL := hide hcl
      have HPN := hide hpn
      clear hW5 hcs hp hpn hwj hcl r1 f1 c1 HF HB3 HF4 HB4 HAT
      go_loopw [10] (fun jv V => ∃ (J : Nat) (u : Value), jv = .int .i64 ((J + 2 : Nat) : Int) ∧ J ≤ p ∧ Blk V X 44 #[.string (ofl N0), .int .i64 sz, u] ∧ V.ownsRow (X + 1) 3 1 u J (((cs.take J).map fun t => satI t).map fun k => Value.int .i64 k) ∧ Below X w2 V) (fun jv _ => p + 2 - (intOf jv).toNat)
      case atStart => exact ⟨0, .slice none 0 0, rfl, by omega, hF5, World.ownsRow_nil _ _ _ _, hb5⟩
      case round =>
        clear hF5 hb5
        obtain ⟨J, u, rfl, hJ, hF, hrow, hbV⟩ := hrel
        obtain ⟨K, hK⟩ : ∃ K, K = J + 2 := ⟨_, rfl⟩
        rw [← hK]
        have HK := hide hK
        have kb : K ≤ 70000 := by omega
        by_cases hlt2 : J < p
        · have d1 : decide (K < n3) = true := by have := HPN.out; have := HN3.out; have := HK.out; simp; omega
          have d1' : decide ((K : Int) < (n3 : Int)) = true := by have := HPN.out; have := HN3.out; have := HK.out; simp; omega
          have hJl : J < cs.length := by rw [← HP.out]; exact hlt2
          have hge : cs.getD J [] = cs[J] := by simp [List.getD, hJl]
          obtain ⟨tb, htb⟩ : ∃ tb, tb = ofl (cs.getD J []) := ⟨_, rfl⟩
          have q5 : wr.cell? ⟨G, K, none⟩ = some (.string tb) := by
            rw [hwc hbV, HK.out, HWJ.out J hlt2, htb]
          have kK : (K : Int) < (m1 : Int) := by have := HPN.out; have := HM2.out; have := HK.out; omega
          have kK' : K < m1 := by have := HPN.out; have := HM2.out; have := HK.out; omega
          have k0 : (0 : Int) ≤ (K : Int) := by omega
          have htn : tb.size ≤ 281474976710656 := by
            have := HCL.out _ (List.getElem_mem hJl)
            rw [htb, ofl_size, hge]
            omega
          have hlaid := HL.out.below (below_step HWW.out (hup hbV))
          have HAT := hide (atoi_sat tb htn hlaid)
          obtain ⟨v, hv⟩ : ∃ v, v = satI (bl tb) := ⟨_, rfl⟩
          rw [← hv] at HAT
          have hnx : ((cs.take (J + 1)).map fun t => satI t).map (fun k => Value.int .i64 k) = (((cs.take J).map fun t => satI t).map fun k => Value.int .i64 k) ++ [Value.int .i64 v] := by
            rw [List.take_succ_eq_append_getElem hJl, hv, htb, hge]
            rw [List.map_append, List.map_append, bl_ofl]
            rfl
          obtain ⟨i0', hi0, hz0, hz1, hz2⟩ := info_parts info_int
          have HI0 := hide hi0
          have HZ0 := hide hz0
          have HZ1 := hide hz1
          have HZ2 := hide hz2
          have HNX := hide hnx
          have HF := hide hF
          have HROW := hide hrow
          have HBV := hide hbV
          clear hge htb hv hnx hF hrow hbV hlaid hi0 hz0 hz1 hz2 htn hK
          go_wp2_with (first
            | (go_at_call 31; refine HAT.out.mono ?_; rintro e w4 ⟨er, rfl, hb4⟩; have HF4 := hide (HF.out.below hb4 HF.out.lt); have HR4 := hide (own_below HROW.out hb4); have HB4 := hide (HBV.out.trans (hb4.mono (by have := HF.out.lt; omega))); have r2 := HF4.out.cell 2; clear hb4)
            | (at_builtin; go_loud (refine wpList_append_own_at _ rfl (.tmp 58) (.tmp 60) 35 rfl (X + 1) 3 i0' (.int .i64 0) 1 8 Tryz.underlying35 HI0.out HZ0.out HZ1.out HZ2.out rfl (by decide) _ _ _ rfl (HR4.out.alloc _) ⟨w4.heap.size, 0, none⟩ 1 1 [.int .i64 v] rfl rfl (news_l _ _ _) (by simp [Value.oneCell']) (by unfold maxLen; omega) (by omega) (by have := HF4.out.lt; simp; omega) ?_; intro v5 w5 hr5 hg5 _ hw5; obtain ⟨g5, cap5, rfl⟩ := ownsRow_succ hr5; have hF5 : Blk w5 X 44 _ := (HF4.out.alloc _).grown hg5 (own_ne' HR4.out (Nat.lt_succ_self _)); have r5 := hF5.cell 2; have f5 := hF5.frozen 2; have HF5 := hide hF5; have HR5 := hide hr5; have HB5 := hide ((HB4.out.alloc (by have := HF4.out.lt; omega) _).grown hg5 (by have := HF4.out.lt; simp; omega) (fun k hk => by have := (HR4.out.lt k hk).1; omega)); clear hF5 hr5 hg5 hw5)))
          go_roundw
          case rel =>
            refine ⟨J + 1, _, congrArg (Value.int .i64) (by have := HK.out; omega), by omega, HF5.out.set_ 2 _, ?_, HB5.out.setCell (Nat.le_refl _) _⟩
            rw [HNX.out]
            exact HR5.out.kept (grownBy_setC w5 X 2 (.slice (some ⟨g5, 0, none⟩) (J + 1) cap5)) (own_off HR5.out (Nat.lt_succ_self _))
          case measure => have := HK.out; simp only [intOf]; omega
        · have d1 : decide (K < n3) = false := by have := HPN.out; have := HN3.out; have := HK.out; simp; omega
          have d1' : decide ((K : Int) < (n3 : Int)) = false := by have := HPN.out; have := HN3.out; have := HK.out; simp; omega
          obtain rfl : J = p := by omega
          obtain ⟨cA, cc, rfl⟩ := own_slice hrow
          have hall : cs.take J = cs := List.take_of_length_le (by rw [← HP.out]; exact Nat.le_refl _)
          rw [hall] at hrow
          obtain ⟨ks, hks⟩ : ∃ ks, ks = cs.map fun t => satI t := ⟨_, rfl⟩
          rw [← hks] at hrow
          have hkl : J = ks.length := by rw [hks, List.length_map]; exact HP.out
          obtain ⟨x', hx'⟩ : ∃ x' : FileD, x' = { name := ofl N0, size := sz, cA := cA, cc := cc, cells := ks } := ⟨_, rfl⟩
          have hlin : x'.bare = lineR x := by
            rw [hx', hks]
            unfold FileD.bare lineR
            rw [← HWS.out, HW0.out, HSZ.out, HT1.out, HCS.out]
            simp only [List.headD_cons, List.tail_cons, bl_ofl]
          have hbU := hup hbV
          have hLR := HLR.out.below hbU
          obtain ⟨oA, oc, rfl⟩ := own_slice hLR.row
          have hIB : IB wr b x' := by
            have hbX : b ≤ X + 1 := by have h1 := HBW.out.size; have h2 := HBB.out; omega
            have h := own_mono hrow hbX
            unfold IB
            rw [hx']
            rw [hkl] at h
            exact h
          have hxwf : x'.name.size ≤ 9223372036854775807 ∧ x'.cells.length ≤ 9223372036854775807 ∧ ∀ k ∈ x'.cells, -9223372036854775808 ≤ k ∧ k ≤ 9223372036854775807 := by
            have hN := HWL.out N0 (by rw [HW0.out]; exact List.mem_cons_self ..)
            subst hx'
            refine ⟨by rw [ofl_size]; omega, by show ks.length ≤ _; omega, fun k hk => ?_⟩
            have hk' : k ∈ ks := hk
            rw [hks] at hk'
            obtain ⟨y, -, rfl⟩ := List.mem_map.1 hk'
            exact satI_int y
          have g0 := hF.cell 0
          have g1 := hF.cell 1
          have g2 := hF.cell 2
          have hrw : x'.row = [.string (ofl N0), .int .i64 sz, .slice cA J cc] := by rw [hx', hkl]; rfl
          obtain ⟨i0', hi0, hz0, hz1, hz2⟩ := info_parts info_file
          have HI0 := hide hi0
          have HZ0 := hide hz0
          have HZ1 := hide hz1
          have HZ2 := hide hz2
          have hob : out.length ≤ 70000 := by have := HOL.out; omega
          have hsb : b ≤ wr.heap.size := by have h1 := HBW.out.size; have h2 := HBB.out; have h3 := hbU.size; omega
          have HRW := hide hrw
          have HXWF := hide hxwf
          have HIB := hide hIB
          have HLIN := hide hlin
          have HBU := hide hbU
          have HLR2 := hide hLR
          clear hK hi0 hz0 hz1 hz2 hall hrow hks hkl hlin hbU hLR hIB hxwf hrw hF hbV hwc hup hx'
          go_wp2_with (at_builtin; go_loud (refine wpList_append_own_at _ rfl (.tmp 63) (.tmp 65) 22 rfl b 44 i0' (.agg #[.string ⟨#[]⟩, .int .i64 0, .slice none 0 0]) 3 48 Tryz.underlying22 HI0.out HZ0.out HZ1.out HZ2.out rfl (by decide) _ _ _ rfl (HLR2.out.row.alloc _) ⟨wr.heap.size, 0, none⟩ 1 1 [.string (ofl N0), .int .i64 sz, .slice cA J cc] rfl rfl (news_l _ _ _) (by simp [Value.oneCell']) (by unfold maxLen; omega) (by omega) (by simp; omega) ?_; intro v5 w5 hr5 hg5 _ hw5; have HR5 := hide hr5; have HG5 := hide hg5; clear hr5 hg5 hw5))
          have hnew : w5.ownsRow b 44 3 v5 (out.length + 1) (out.flatMap FileD.row ++ x'.row) := by rw [HRW.out]; exact HR5.out
          have hmap2 : (out ++ [x']).map FileD.bare = (LS.take (I + 1)).map lineR := by rw [List.map_append, HMAP.out, HMN.out, ← HLIN.out]; rfl
          have hbel2 : Below wL.heap.size wL w5 := ((HBW.out.trans (HBU.out.mono HBW.out.size)).alloc (by have := HBB.out; omega) _).grown HG5.out (by have := HBB.out; simp; omega) (fun k hk => by have := (HLR2.out.row.lt k hk).1; have := HBB.out; omega)
          have hwf2 : ∀ y ∈ out ++ [x'], y.name.size ≤ 9223372036854775807 ∧ y.cells.length ≤ 9223372036854775807 ∧ ∀ k ∈ y.cells, -9223372036854775808 ≤ k ∧ k ≤ 9223372036854775807 := fun y hy => by
            rcases List.mem_append.1 hy with e | e
            · exact HWF.out y e
            · rw [List.mem_singleton.1 e]; exact HXWF.out
          exact ⟨⟨I + 1, out ++ [x'], by go_num, by omega, HLR2.out.snoc HIB.out _ HG5.out hnew, hmap2, by rw [List.length_append, HOL.out]; rfl, hbel2, hwf2⟩, by simp [intOf]; omega⟩
    · have d0 : decide (I < M) = false := by simpa using hlt
      obtain rfl : I = M := by omega
      obtain ⟨A, cc, rfl⟩ := own_slice hLR.row
      have hfiles := hLR.files hwf
      have hlines : out.map FileD.bare = linesR (bl s) := by
        rw [hmap]
        unfold linesR
        rw [← HLS.out, List.dropLast_eq_take, ← HN1.out, HNM.out]
        rfl
      have hr1 : rightB (linesR (bl s)) = rightB out := by rw [← hlines, right_bare]
      have hp1 : printL (linesR (bl s)) = printL out := by rw [← hlines, printL_bare]
      have hpar : parseP (bl s) = if rightB out = true ∧ printL out = bl s then some (out.map FileD.bare) else none := by
        rw [← parse_two]
        unfold parseR
        rw [hr1, hp1, hlines]
      have hww : Below w.heap.size w wr := by rw [← HL0.out]; exact HBL.out.trans (hbW.mono (by have := HBB.out; omega))
      have hlaid := HL.out.below hww
      have hn65 : out.length ≤ 65536 := by omega
      obtain ⟨k, hk⟩ : ∃ k, k = out.length := ⟨_, rfl⟩
      rw [← hk] at hfiles hn65 ⊢
      have HFI := hide hfiles
      have HPAR := hide hpar
      have HWW := hide hww
      cases hr : rightB out with
      | false =>
        have HPR := hide (refprint_bad (c := cc) hfiles hn65 hr)
        have hno : parseP (bl s) = none := by rw [hpar, hr]; simp
        have HNO := hide hno
        clear hfiles hlines hr1 hp1 hpar hww hlaid hk hr hno hLR hmap hol hbW hwf
        go_wp2_with (go_at_call 5; refine HPR.out.mono ?_; rintro e w9 ⟨rfl, hb9⟩; have HB9 := hide (below_step HWW.out hb9); clear hb9)
        go_ret2
        exact ⟨HB9.out, .inl ⟨HNO.out, rfl⟩⟩
      | true =>
        have HPR := hide (refprint_good (c := cc) hfiles hr hlaid)
        obtain ⟨T, hT⟩ : ∃ T, T = ofl (printL out) := ⟨_, rfl⟩
        rw [← hT] at HPR
        obtain ⟨q, hq⟩ : ∃ q, q = (T.toList == s.toList) := ⟨_, rfl⟩
        have hq1 : (T.toList == s.toList) = q := hq.symm
        have hq2 : (T.toList != s.toList) = !q := by rw [hq]; rfl
        have hqe : q = true ↔ printL out = bl s := by rw [hq, beq_iff_eq, toList_bl, toList_bl, hT, bl_ofl]
        have hpar2 : parseP (bl s) = if q = true then some (out.map FileD.bare) else none := by
          rw [hpar, hr]
          by_cases h : printL out = bl s
          · rw [if_pos ⟨rfl, h⟩, if_pos (hqe.2 h)]
          · rw [if_neg (fun e => h e.2), if_neg (fun e => h (hqe.1 e))]
        have HP2 := hide hpar2
        clear HPAR hfiles hlines hr1 hp1 hpar hww hlaid hk hr hLR hmap hol hbW hwf hT hq hqe hpar2
        cases q with
        | true =>
          go_wp2_with (go_at_call 5; refine HPR.out.mono ?_; rintro e w9 ⟨rfl, hb9⟩; have HF9 := hide (HFI.out.below hb9); have HB9 := hide (below_step HWW.out hb9); clear hb9)
          go_ret2
          exact ⟨HB9.out, .inr ⟨_, _, _, _, HP2.out, HF9.out, rfl⟩⟩
        | false =>
          go_wp2_with (go_at_call 5; refine HPR.out.mono ?_; rintro e w9 ⟨rfl, hb9⟩; have HB9 := hide (below_step HWW.out hb9); clear hb9)
          go_ret2
          exact ⟨HB9.out, .inl ⟨HP2.out, rfl⟩⟩
end Go.Proofs.YtmligbaalbbgiabGreatDoor

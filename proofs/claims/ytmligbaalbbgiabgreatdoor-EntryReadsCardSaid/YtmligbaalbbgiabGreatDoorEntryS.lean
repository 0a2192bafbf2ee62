/- The function entry.Parse. Conditions: the text is shorter than 65536; the variables hold what is laid in them. -/
import Derived.Test.YtmligbaalbbgiabGreatDoorEntryQ
namespace Go.Proofs.YtmligbaalbbgiabGreatDoor
open Go.RowKit Go.Shelf

attribute [local go_sem] Oper.semAt_some

theorem parse_fin0 (n : Nat) {W : World} {B D : Nat} {v1 v2 : Value} {tmps : Array Value} {R : Ending → World → Prop} (ht2 : tmps.getD 2 undef = .pointer (some ⟨B, 0, none⟩)) (ht3 : tmps.getD 3 undef = .pointer (some ⟨B + 1, 0, none⟩))
    (hK : W.heap[D]? = some (.deferred (some []))) (c1 : W.cell? ⟨B, 0, none⟩ = some v1) (c2 : W.cell? ⟨B + 1, 0, none⟩ = some v2) (hR : R (.returned (.tuple #[v1, v2])) (W.putObj D (.deferred none))) :
    bodyPostM Fence.wide n Tryz.prog Tryz.f18 R Exit.ret { tmps := tmps, defers := [{ target := Target.collected D, args := #[] }] } W := by
  have d1 := cell_kept c1 (grownBy_putObj' _ D (.deferred none)) (fun r e => by cases e; exact ⟨_, hK, rfl⟩)
  have d2 := cell_kept c2 (grownBy_putObj' _ D (.deferred none)) (fun r e => by cases e; exact ⟨_, hK, rfl⟩)
  have ht2' : tmps[2]?.getD undef = .pointer (some ⟨B, 0, none⟩) := by simpa using ht2
  have ht3' : tmps[3]?.getD undef = .pointer (some ⟨B + 1, 0, none⟩) := by simpa using ht3
  refine ⟨by simp, .inl ⟨_, _, rfl, run_takeDeferred hK, ?_⟩⟩
  refine ⟨.tuple #[v1, v2], ?_, hR⟩
  simp [results, Tryz.f18, go_sem, ht2', ht3', d1, d2]
theorem parse_fin (n : Nat) {w w5 : World} {b D : Nat} {v1 v2 u1 u2 : Value} {t1 t2 : TypeId} {tmps : Array Value} {R : Ending → World → Prop} (hb : b = w.heap.size) (hD : b + 7 ≤ D) (ht2 : tmps.getD 2 undef = .pointer (some ⟨b + 1, 0, none⟩)) (ht3 : tmps.getD 3 undef = .pointer (some ⟨b + 1 + 1, 0, none⟩))
    (hK : w5.heap[D]? = some (.deferred (some []))) (q1 : Boxed w5 (b + 1) t1 u1) (q2 : Boxed w5 (b + 1 + 1) t2 u2) (hB : Below w.heap.size w w5)
    (hR : Below w.heap.size w (((w5.setCell ⟨b + 1, 0, none⟩ v1).setCell ⟨b + 1 + 1, 0, none⟩ v2).putObj D (.deferred none)) → R (.returned (.tuple #[v1, v2])) (((w5.setCell ⟨b + 1, 0, none⟩ v1).setCell ⟨b + 1 + 1, 0, none⟩ v2).putObj D (.deferred none))) :
    bodyPostM Fence.wide n Tryz.prog Tryz.f18 R Exit.ret { tmps := tmps, defers := [{ target := Target.collected D, args := #[] }] } ((w5.setCell ⟨b + 1, 0, none⟩ v1).setCell ⟨b + 1 + 1, 0, none⟩ v2) := by
  have hK6 : ((w5.setCell ⟨b + 1, 0, none⟩ v1).setCell ⟨b + 1 + 1, 0, none⟩ v2).heap[D]? = some (.deferred (some [])) :=
    (Below.heap_setCell _ ⟨b + 1 + 1, 0, none⟩ v2 D (by show D ≠ b + 1 + 1; omega)).trans ((Below.heap_setCell _ ⟨b + 1, 0, none⟩ v1 D (by show D ≠ b + 1; omega)).trans hK)
  have hB6 : Below w.heap.size w ((w5.setCell ⟨b + 1, 0, none⟩ v1).setCell ⟨b + 1 + 1, 0, none⟩ v2) := (hB.setCell (by show w.heap.size ≤ b + 1; omega) _).setCell (by show w.heap.size ≤ b + 1 + 1; omega) _
  exact parse_fin0 n ht2 ht3 hK6 (((q1.set v1).other (by omega) _).cell) (((q2.other (by omega) _).set v2).cell) (hR (hB6.trans (belowK_b (w := w) (Nat.le_refl _) _ D _ _ (by omega) hK6 rfl rfl)))

set_option maxRecDepth 100000 in
set_option maxHeartbeats 8000000 in
theorem parse_in (n : Nat) (hn : 6 ≤ n) (s : ByteArray) (hs : s.size ≤ 65536) {w : World} (hL : LaidN w) :
    CallsIn Fence.wide n Tryz.prog 18 #[.string s] w fun e w' => Below w.heap.size w w' ∧
      ((parseP (bl s) = none ∧ e = .returned (.tuple #[.slice none 0 0, .iface 24 (.int .i64 3)])) ∨
       (∃ l A k c, parseP (bl s) = some (l.map FileD.bare) ∧ FilesAt w' A k l ∧ e = .returned (.tuple #[.slice A k c, .nilIface]))) := by
  obtain ⟨T, hT⟩ : ∃ T, T = ofl (Lib.trimSuffix (bl s) [10]) := ⟨_, rfl⟩
  have hTS := fun W => Go.Proofs.Tryz.strings_TrimSuffix s ⟨#[10]⟩ W (by omega)
  have hTe : (⟨(Lib.trimSuffix s.data.toList (⟨#[10]⟩ : ByteArray).data.toList).toArray⟩ : ByteArray) = T := by rw [hT]; rfl
  rw [hTe] at hTS
  have HTS := hide (fun W => (hTS W).mono fun e w' ⟨he, hw⟩ => (⟨he, hw.symm⟩ : e = _ ∧ W = w'))
  have hTn : T.size ≤ 65536 := by
    rw [hT, ofl_size]
    unfold Lib.trimSuffix
    split
    · rw [List.length_take, bl_length]; omega
    · rw [bl_length]; exact hs
  have HT := hide hT
  have n1 : 1 ≤ n := by omega
  have n2 : 2 ≤ n - 1 := by omega
  have HSS := hide (fun W => SplitSeq_in (n - 1) n2 T W)
  clear hTS hTe hT
  refine callsIn_of_wp_marks Tryz.func18 rfl trivial ?_ rfl
  simp only [Tryz.ntmps18, List.size_toArray, List.length_cons, List.length_nil, Nat.reduceAdd, Nat.reduceSub, Array.replicate_succ, Array.replicate_zero, List.push_toArray, List.append_toArray, List.nil_append, List.cons_append]
  gi_wp2_with (first
    | (refine ⟨trivial, ?_⟩; gi_at_call 33; refine (callsIn_wide.2 (HTS.out _)).mono ?_; rintro e w1 ⟨rfl, rfl⟩)
    | (refine ⟨trivial, ?_⟩; gi_at_call 32; refine (HSS.out _).mono ?_; rintro e w1 ⟨rfl, rfl⟩))
  obtain ⟨b, hb⟩ : ∃ b, b = w.heap.size := ⟨_, rfl⟩
  rw [← hb]
  obtain ⟨W0, hW0⟩ : ∃ W0, W0 = (((((((w.alloc (.cells #[.string s] 9)).alloc (.cells #[.slice none 0 0] 22)).alloc (.cells #[.nilIface] 28)).alloc (.cells #[.slice none 0 0] 22)).alloc (.cells #[.string T] 9)).alloc (.cells #[.string ⟨#[10]⟩] 9)).alloc (.cells #[.int .i64 0] 3)) := ⟨_, rfl⟩
  have hsz : W0.heap.size = b + 7 := by rw [hW0, hb]; simp
  have hB0 : Below w.heap.size w W0 := by
    rw [hW0]
    exact (((((((Below.refl _ w).alloc (Nat.le_refl _) _).alloc (by simp) _).alloc (by simp; omega) _).alloc (by simp; omega) _).alloc (by simp; omega) _).alloc (by simp; omega) _).alloc (by simp; omega) _
  have k0 : Boxed W0 b 9 (.string s) := by
    rw [hW0, hb]; exact (((((((Boxed.new w _ _).alloc _).alloc _).alloc _).alloc _).alloc _).alloc _)
  have k1 : Boxed W0 (b + 1) 22 (.slice none 0 0) := by
    have h := ((((((Boxed.new (w.alloc (.cells #[.string s] 9)) 22 (.slice none 0 0)).alloc (.cells #[.nilIface] 28)).alloc (.cells #[.slice none 0 0] 22)).alloc (.cells #[.string T] 9)).alloc (.cells #[.string ⟨#[10]⟩] 9)).alloc (.cells #[.int .i64 0] 3))
    rw [World.size_alloc, ← hb] at h
    rw [hW0]; exact h
  have k2 : Boxed W0 (b + 1 + 1) 28 .nilIface := by
    have h := (((((Boxed.new ((w.alloc (.cells #[.string s] 9)).alloc (.cells #[.slice none 0 0] 22)) 28 .nilIface).alloc (.cells #[.slice none 0 0] 22)).alloc (.cells #[.string T] 9)).alloc (.cells #[.string ⟨#[10]⟩] 9)).alloc (.cells #[.int .i64 0] 3))
    rw [World.size_alloc, World.size_alloc, ← hb] at h
    rw [hW0]; exact h
  have k3 : Boxed W0 (b + 1 + 1 + 1) 22 (.slice none 0 0) := by
    have h := ((((Boxed.new (((w.alloc (.cells #[.string s] 9)).alloc (.cells #[.slice none 0 0] 22)).alloc (.cells #[.nilIface] 28)) 22 (.slice none 0 0)).alloc (.cells #[.string T] 9)).alloc (.cells #[.string ⟨#[10]⟩] 9)).alloc (.cells #[.int .i64 0] 3))
    rw [World.size_alloc, World.size_alloc, World.size_alloc, ← hb] at h
    rw [hW0]; exact h
  have k4 : Boxed W0 (b + 1 + 1 + 1 + 1) 9 (.string T) := by
    have h := (((Boxed.new ((((w.alloc (.cells #[.string s] 9)).alloc (.cells #[.slice none 0 0] 22)).alloc (.cells #[.nilIface] 28)).alloc (.cells #[.slice none 0 0] 22)) 9 (.string T)).alloc (.cells #[.string ⟨#[10]⟩] 9)).alloc (.cells #[.int .i64 0] 3))
    rw [World.size_alloc, World.size_alloc, World.size_alloc, World.size_alloc, ← hb] at h
    rw [hW0]; exact h
  have k5 : Boxed W0 (b + 1 + 1 + 1 + 1 + 1) 9 (.string ⟨#[10]⟩) := by
    have h := ((Boxed.new (((((w.alloc (.cells #[.string s] 9)).alloc (.cells #[.slice none 0 0] 22)).alloc (.cells #[.nilIface] 28)).alloc (.cells #[.slice none 0 0] 22)).alloc (.cells #[.string T] 9)) 9 (.string ⟨#[10]⟩)).alloc (.cells #[.int .i64 0] 3))
    rw [World.size_alloc, World.size_alloc, World.size_alloc, World.size_alloc, World.size_alloc, ← hb] at h
    rw [hW0]; exact h
  have k6 : Boxed W0 (b + 1 + 1 + 1 + 1 + 2) 3 (.int .i64 0) := by
    have h := (Boxed.new ((((((w.alloc (.cells #[.string s] 9)).alloc (.cells #[.slice none 0 0] 22)).alloc (.cells #[.nilIface] 28)).alloc (.cells #[.slice none 0 0] 22)).alloc (.cells #[.string T] 9)).alloc (.cells #[.string ⟨#[10]⟩] 9)) 3 (.int .i64 0))
    rw [World.size_alloc, World.size_alloc, World.size_alloc, World.size_alloc, World.size_alloc, World.size_alloc, ← hb] at h
    rw [hW0]; exact h
  rw [← hW0]
  clear hW0
  obtain ⟨ps, hps⟩ := lines_ex (cutL 10 (bl T)) (fun x hx => Nat.le_trans (cutL_len _ _ x hx) (by rw [bl_length]; exact hTn))
  have HPS := hide hps
  have hps65 : ps.length ≤ 65537 := by
    have h := congrArg List.length hps
    have h2 := cutL_length 10 (bl T)
    have h3 : (bl T).count 10 ≤ (bl T).length := List.count_le_length
    rw [bl_length] at h3
    rw [List.length_map] at h
    omega
  have h0 : PI w s b [] W0 := ⟨hB0, by omega, k0, k1, k2, .slice none 0 0, [], [], k3, LR.nil _ _, rfl, by simp, by simp, fun x hx => (by cases hx)⟩
  have HST := hide (splitSeq1_st (n - 1) (by omega) (b + 1 + 1 + 1 + 1) T ps (by omega) hps W0 k4 k5 k6)
  have HB0 := hide hB0
  have HL := hide hL
  have HBW := hide hb
  clear hb
  clear k0 k1 k2 k3 k4 k5 k6 hps hB0 hL
  refine wpIn_rangeFunc_st (F := Fence.wide) (n := n) rfl n1 (gf := 71) (lb := #[.pointer (some ⟨b + 1 + 1 + 1 + 1 + 1, 0, none⟩), .pointer (some ⟨b + 1 + 1 + 1 + 1, 0, none⟩), .pointer (some ⟨b + 1 + 1 + 1 + 1 + 2, 0, none⟩)]) rfl trivial (enters_of Tryz.func71 (by kernel_rfl) rfl)
    HST.out
    (fun A B hr k o hk ho _ => by
      obtain ⟨v, rfl⟩ := hr
      exact (Below.heap_setCell A ⟨b + 1 + 1 + 1 + 1, 0, none⟩ v k (by show k ≠ b + 1 + 1 + 1 + 1; omega)).trans ho)
    (fun {A B C} h1 h2 k hk => (h2 k hk).trans (h1 k hk))
    (fun W l o' hl k hk => World.putObj_heap_other (by omega))
    (fun _ => rfl)
    (fun pre W => PI w s b pre W) (fun c pre W => PX w b c pre W) (PI.own HBW.out (by omega)) (PX.own HBW.out (by omega))
    (fun _ _ _ h hs => h.step HBW.out hs) (fun _ _ _ _ h hs => h.step HBW.out hs) h0
    (fun x => { tmps := #[.string s, .pointer (some ⟨b, 0, none⟩), .pointer (some ⟨b + 1, 0, none⟩), .pointer (some ⟨b + 1 + 1, 0, none⟩), .pointer (some ⟨b + 1 + 1 + 1, 0, none⟩), .string (ofl x.1), undef, undef, undef, undef, undef, undef, undef, undef, .string s, .string T, .func (.func 71) #[] #[.pointer (some ⟨b + 1 + 1 + 1 + 1 + 1, 0, none⟩), .pointer (some ⟨b + 1 + 1 + 1 + 1, 0, none⟩), .pointer (some ⟨b + 1 + 1 + 1 + 1 + 2, 0, none⟩)], .string (ofl x.1), undef, undef, undef, undef, undef, undef, undef, undef, undef, undef, undef, undef, undef, undef, undef, undef, undef, undef, undef, undef, undef, undef, undef, undef, undef, undef, undef, undef, undef, undef, undef, undef, undef, undef, undef, undef, undef, undef, undef, undef, undef, undef, undef, undef, undef, undef, undef, undef, undef, undef, undef, undef, undef, undef, undef], defers := [] })
    ?assign ?body ?done ?stop
  case assign =>
    intro l x W K hK
    dsimp only [encT]
    gi_wp2
    exact hK
  case body =>
    clear HTS HSS HST h0
    rintro l pre x W hl hPI hlt
    have n4 : 1 ≤ n - 1 - 1 := by omega
    obtain ⟨N0, ws, hcut⟩ : ∃ N0 ws, cutL 32 x.1 = N0 :: ws := by
      cases hc : cutL 32 x.1 with
      | nil => exact absurd hc (cutL_ne _ _)
      | cons a r => exact ⟨a, r, rfl⟩
    have HSP := hide (split_blk (ofl x.1) 32 (by rw [ofl_size]; have := x.2; omega) (HL.out.below hPI.bel))
    rw [bl_ofl, hcut] at HSP
    obtain ⟨m, hm⟩ : ∃ m, m = ws.length := ⟨_, rfl⟩
    have hm1 : (N0 :: ws).length = m + 1 := by rw [hm]; rfl
    rw [hm1] at HSP
    have hm65 : m ≤ 65536 := by
      have h1 := cutL_length 32 x.1
      rw [hcut] at h1
      have h2 := x.2
      have h3 : x.1.count 32 ≤ x.1.length := List.count_le_length
      omega
    have HCUT := hide hcut
    have HM := hide hm
    have HPI := hide hPI
    obtain ⟨G, hG⟩ : ∃ G, G = W.heap.size := ⟨_, rfl⟩
    rw [← hG] at HSP
    have HG := hide hG
    clear hcut hm hm1 hPI hG
    gi_wp2_with (refine ⟨trivial, ?_⟩; gi_at_call 30; refine (CallsIn.inRound l (callsIn_wide.2 HSP.out)).mono ?_; rintro e w2 ⟨rfl, hk2, hb2⟩; have c0 : w2.cell? ⟨G, 0, none⟩ = some (.string (ofl N0)) := hk2.cell 0; have HK2 := hide hk2; have HB2 := hide hb2; clear hk2 hb2)
    all_goals
      obtain ⟨Bf, hBf⟩ : ∃ Bf, Bf = w2.heap.size := ⟨_, rfl⟩
      obtain ⟨W3, hW3⟩ : ∃ W3, W3 = w2.alloc (.cells #[.string (ofl N0), .int .i64 0, .slice none 0 0] 44) := ⟨_, rfl⟩
      have hF : Blk W3 Bf 44 #[.string (ofl N0), .int .i64 0, .slice none 0 0] := by rw [hW3, hBf]; exact Blk.new _ _ _
      have hb3 : Below Bf w2 W3 := by rw [hW3, hBf]; exact (Below.refl _ _).alloc (Nat.le_refl _) _
      have hGB : G < Bf := by rw [hBf]; exact HK2.out.lt
      have hsW : W.heap.size ≤ Bf := by rw [hBf]; exact HB2.out.size
      have hup : ∀ {V : World}, Below Bf w2 V → Below W.heap.size W V := fun h => (show Below W.heap.size W w2 by rw [← HG.out]; exact HB2.out).trans (h.mono hsW)
      rw [← hW3, ← hBf]
      have HF := hide hF
      have HB3 := hide hb3
      have HBf := hide hBf
      clear hF hb3 hBf hW3 c0
      gi_loopw [27] (fun iv V => ∃ (J : Nat) (vs : List Int) (u : Value), iv = .int .i64 (J : Int) ∧ J ≤ m ∧ numsP (ws.take J) = some vs ∧ Blk V Bf 44 #[.string (ofl N0), .int .i64 (vs.headD 0), u] ∧ V.ownsRow (Bf + 1) 3 1 u vs.tail.length (vs.tail.map fun k => Value.int .i64 k) ∧ Below Bf w2 V) (fun iv _ => m - (intOf iv).toNat)
      case atStart => exact ⟨0, [], .slice none 0 0, rfl, by omega, rfl, HF.out, World.ownsRow_nil _ _ _ _, HB3.out⟩
      case round =>
        clear HF HB3
        obtain ⟨J, vs, u, rfl, hJ, hvs, hF, hrow, hbV⟩ := hrel
        by_cases hlt2 : J < m
        · first
            | (exfalso; omega)
            | (have d1 : decide (J < m) = true := by simpa using hlt2
               have hJl : J < ws.length := by rw [← HM.out]; exact hlt2
               obtain ⟨t, ht⟩ : ∃ t, t = ws[J] := ⟨_, rfl⟩
               obtain ⟨tb, htb⟩ : ∃ tb, tb = ofl t := ⟨_, rfl⟩
               have hws : ws = ws.take J ++ t :: ws.drop (J + 1) := by rw [ht, ← List.drop_eq_getElem_cons hJl, List.take_append_drop]
               have htk : ws.take (J + 1) = ws.take J ++ [t] := by rw [List.take_succ_eq_append_getElem hJl, ht]
               have htn : tb.size ≤ 281474976710656 := by
                 have h1 := cutL_len 32 x.1 t (by rw [HCUT.out, hws]; simp)
                 have h2 := x.2
                 rw [htb, ofl_size]
                 omega
               have q5 : wr.cell? ⟨G, 1 + J, none⟩ = some (.string tb) := by
                 have h1 := (HK2.out.below hbV hGB).cell (J + 1)
                 rw [Nat.add_comm 1 J, h1, htb]
                 simp [hJl, ht]
               have hlen := (numsP_length hvs).1
               rw [List.length_take] at hlen
               have hvJ : vs.length = J := by omega
               have hLV := HL.out.below (below_step HPI.out.bel (hup hbV))
               have HWS := hide hws
               have HTK := hide htk
               have HVS := hide hvs
               have HF := hide hF
               have HROW := hide hrow
               have HBV := hide hbV
               have HVJ := hide hvJ
               have HTB := hide htb
               clear hws htk hvs hF hrow hbV hlen ht hvJ htb
               by_cases hno : ∀ v, Lib.atoiAll (bl tb) ≠ .ok v
               · have HAT := hide (atoi_no tb htn hno hLV)
                 have HNO := hide hno
                 clear hno hLV
                 gi_wp2_with (refine ⟨trivial, ?_⟩; gi_at_call 31; refine (CallsIn.inRound l (callsIn_wide.2 HAT.out)).mono ?_; rintro e w4 ⟨v, N, rfl, hb4⟩; have HB4 := hide (hup (HBV.out.trans (hb4.mono (by have := HF.out.lt; omega)))); have q1 := (HB4.out.block _ (by have := HPI.out.sz; omega)).trans HPI.out.br; have q2 := (HB4.out.block _ (by have := HPI.out.sz; omega)).trans HPI.out.be; have r1 := Boxed.cell q1; have r2 := Boxed.cell q2; have f1 := Boxed.frozen q1; have f2 := Boxed.frozen q2; have Q1 := hide q1; have Q2 := hide q2; clear hb4 q1 q2)
                 have hpx : PX w b .ret (pre ++ [x]) ((w4.setCell ⟨b + 1, 0, none⟩ (.slice none 0 0)).setCell ⟨b + 1 + 1, 0, none⟩ (.iface 24 (.int .i64 3))) := by
                   have hbx := HBW.out
                   obtain ⟨v0, out, ys, -, -, hys, -, -, -⟩ := HPI.out.lr
                   refine ⟨rfl, ?_, ((show Boxed w4 (b + 1) _ _ from Q1.out).set _).other (by omega) _, ((show Boxed w4 (b + 1 + 1) _ _ from Q2.out).other (by omega) _).set _, ((below_step HPI.out.bel HB4.out).setCell (by show w.heap.size ≤ b + 1; omega) _).setCell (by show w.heap.size ≤ b + 1 + 1; omega) _⟩
                   rw [List.map_append, List.map_cons, List.map_nil, linesP_snoc hys]
                   have : lineP x.1 = none := by
                     unfold lineP
                     rw [HCUT.out, HWS.out]
                     simp only
                     rw [numsP_none (by have h := HNO.out; rw [HTB.out, bl_ofl] at h; exact h)]
                     rfl
                   rw [this]
                   rfl
                 exact ⟨(below_keeps HB4.out _).trans (((KeepsOthers.setCell _ _ _).trans (KeepsOthers.setCell _ _ _)).from _), hpx⟩
               · obtain ⟨v, hv⟩ : ∃ v, Lib.atoiAll (bl tb) = .ok v := Classical.byContradiction fun h => hno fun v hv => h ⟨v, hv⟩
                 have HAT := hide (fun V => atoi_ok tb htn v hv V)
                 have hvs2 : numsP (ws.take (J + 1)) = some (vs ++ [v]) := by
                   rw [HTK.out]
                   exact numsP_snoc HVS.out (by have h := hv; rw [HTB.out, bl_ofl] at h; exact h)
                 have HVS2 := hide hvs2
                 clear hno hv hvs2 hLV
                 by_cases hJ0 : J = 0
                 · have hvn : vs = [] := List.eq_nil_of_length_eq_zero (by rw [HVJ.out]; exact hJ0)
                   subst hJ0
                   gi_wp2_with (refine ⟨trivial, ?_⟩; gi_at_call 31; refine (CallsIn.inRound l (callsIn_wide.2 (HAT.out _))).mono ?_; rintro e w4 ⟨rfl, hb4⟩; have HF4 := hide (HF.out.below hb4 HF.out.lt); have HR4 := hide (own_below HROW.out hb4); have HB4 := hide (HBV.out.trans (hb4.mono (by have := HF.out.lt; omega))); have r1 := HF4.out.cell 1; have f1 := HF4.out.frozen 1; clear hb4)
                   refine ⟨⟨1, [v], u, rfl, by omega, by have h := HVS2.out; rw [hvn] at h; exact h, HF4.out.set_ 1 (.int .i64 v), ?_, HB4.out.setCell (Nat.le_refl _) _⟩, by simp [intOf]; omega⟩
                   have h := HR4.out
                   rw [hvn] at h
                   exact h.kept (grownBy_setC _ _ _ _) (own_off h (Nat.lt_succ_self _))
                 · have dJ : ((J : Int) == 0) = false := by simp; omega
                   obtain ⟨v0, vt, hvn⟩ : ∃ v0 vt, vs = v0 :: vt := by
                     cases vs with
                     | nil => have h := HVJ.out; simp at h; omega
                     | cons a r => exact ⟨a, r, rfl⟩
                   have hvl : vt.length ≤ 65536 := by
                     have h := HVJ.out
                     rw [hvn] at h
                     simp at h
                     omega
                   obtain ⟨i0, hi0, hz0, hz1, hz2⟩ := info_parts info_int
                   rw [hvn] at HF HROW HVS2
                   have HVN := hide hvn
                   have HI0 := hide hi0
                   have HZ0 := hide hz0
                   have HZ1 := hide hz1
                   have HZ2 := hide hz2
                   clear hvn hi0 hz0 hz1 hz2
                   gi_wp2_with (first
                     | (refine ⟨trivial, ?_⟩; gi_at_call 31; refine (CallsIn.inRound l (callsIn_wide.2 (HAT.out _))).mono ?_; rintro e w4 ⟨rfl, hb4⟩; have HF4 := hide (HF.out.below hb4 HF.out.lt); have HR4 := hide (own_below HROW.out hb4); have HB4 := hide (HBV.out.trans (hb4.mono (by have := HF.out.lt; omega))); have r2 := HF4.out.cell 2; clear hb4)
                     | (gi_at_builtin; refine wpListIn_append_own _ rfl (.tmp 38) (.tmp 40) 35 rfl (Bf + 1) 3 i0 (.int .i64 0) 1 8 Tryz.underlying35 HI0.out HZ0.out HZ1.out HZ2.out rfl (by decide) _ _ _ rfl (HR4.out.alloc _) ⟨w4.heap.size, 0, none⟩ 1 1 [.int .i64 v] rfl rfl (news_l _ _ _) (by simp [Value.oneCell']) (by unfold maxLen; simp; omega) (by simp; omega) (by have := HF4.out.lt; simp; omega) ?_; intro v5 w5 hr5 hg5 _; obtain ⟨g5, cap5, rfl⟩ := ownsRow_succ hr5; have hF5 : Blk w5 Bf 44 _ := (HF4.out.alloc _).grown hg5 (own_ne' HR4.out (Nat.lt_succ_self _)); have r5 := hF5.cell 2; have f5 := hF5.frozen 2; have HF5 := hide hF5; have HR5 := hide hr5; have HB5 := hide ((HB4.out.alloc (by have := HF4.out.lt; omega) _).grown hg5 (by have := HF4.out.lt; simp; omega) (fun k hk => by have := (HR4.out.lt k hk).1; omega)); clear hF5 hr5 hg5))
                   refine ⟨⟨J + 1, v0 :: (vt ++ [v]), _, by go_num, by omega, HVS2.out, HF5.out.set_ 2 _, ?_, HB5.out.setCell (Nat.le_refl _) _⟩, by simp [intOf]; omega⟩
                   have h := HR5.out.kept (grownBy_setC w5 Bf 2 (.slice (some ⟨g5, 0, none⟩) (vt.length + 1) cap5)) (own_off HR5.out (Nat.lt_succ_self _))
                   simpa using h)
        · have d1 : decide (J < m) = false := by simpa using hlt2
          have d2 : decide ((J : Int) < (m : Int)) = false := by simp; omega
          have hJm : J = m := by omega
          have hvs2 : numsP ws = some vs := by rw [List.take_of_length_le (by rw [← HM.out]; omega)] at hvs; exact hvs
          obtain ⟨vt, hvt⟩ : ∃ vt, vt = vs.tail := ⟨_, rfl⟩
          obtain ⟨hd, hhd⟩ : ∃ hd, hd = vs.headD 0 := ⟨_, rfl⟩
          rw [← hvt] at hrow
          rw [← hhd] at hF
          obtain ⟨cA, cc, hu⟩ := own_slice hrow
          rw [hu] at hF hrow
          have hlin : lineP x.1 = some (FileD.bare { name := ofl N0, size := hd, cA := cA, cc := cc, cells := vt }) := by
            unfold lineP
            rw [HCUT.out]
            simp only
            rw [hvs2, hvt, hhd]
            rfl
          have hVW := hup hbV
          have q0 := (hVW.block _ (by have := HPI.out.sz; omega)).trans HPI.out.bs
          have c0 := Boxed.cell q0
          have HLIN := hide hlin
          have HVW := hide hVW
          have HVS2 := hide hvs2
          have HU := hide hu
          have HVT := hide hvt
          have HF := hide hF
          have HROW := hide hrow
          have HJM := hide hJm
          clear hvs hvs2 hlin hVW q0 hbV hu hF hrow hJm hvt hhd
          by_cases hs0 : s.size = 0
          · have e0 : s.toList = [] := by
              rw [toList_bl]
              exact List.eq_nil_of_length_eq_zero (by rw [bl_length]; exact hs0)
            have e1 : s.toList.isEmpty = true := by rw [e0]; rfl
            have HE := hide e0
            have e2 : (s.toList != []) = false := by rw [e0]; rfl
            gi_wp2
            all_goals exact pass HPI.out HVW.out (by rw [← toList_bl]; exact HE.out) HLIN.out
          · have e0 : ¬ s.toList = [] := fun h => hs0 (by rw [← bl_length, ← toList_bl, h]; rfl)
            have e1 : s.toList.isEmpty = false := by
              cases h : s.toList with
              | nil => exact absurd h e0
              | cons a r => rfl
            have hne : bl s ≠ [] := by rw [← toList_bl]; exact e0
            obtain ⟨v, out, ys, k3, hLR, hys, hmap, hol, hwf⟩ := HPI.out.lr
            have k3' : Boxed wr (b + 1 + 1 + 1) 22 v := (HVW.out.block _ (by have := HPI.out.sz; omega)).trans k3
            have hLR' := hLR.below HVW.out
            obtain ⟨oA, oc, hov⟩ := own_slice hLR'.row
            rw [hov] at k3' hLR'
            have c3 := k3'.cell
            have g0 := HF.out.cell 0
            have g1 := HF.out.cell 1
            have g2 := HF.out.cell 2
            have hn0 : N0.length ≤ 65536 := Nat.le_trans (cutL_len 32 x.1 N0 (by rw [HCUT.out]; exact List.mem_cons_self ..)) x.2
            have hvl := numsP_length HVS2.out
            have hxwf : (ofl N0).size ≤ 9223372036854775807 ∧ vt.length ≤ 9223372036854775807 ∧ ∀ k ∈ vt, -9223372036854775808 ≤ k ∧ k ≤ 9223372036854775807 :=
              ⟨by rw [ofl_size]; omega, by rw [HVT.out, List.length_tail, hvl.1, ← HM.out]; omega, fun k hk => hvl.2 k (List.mem_of_mem_tail (HVT.out ▸ hk))⟩
            have hb7 : b + 7 ≤ Bf + 1 := by have := HPI.out.sz; omega
            have hIB : IB wr (b + 7) { name := ofl N0, size := hd, cA := cA, cc := cc, cells := vt } := own_mono HROW.out hb7
            have hob : out.length ≤ 70000 := by have := hps65; omega
            obtain ⟨i0, hi0, hz0, hz1, hz2⟩ := info_parts info_file
            have HI0 := hide hi0
            have HZ0 := hide hz0
            have HZ1 := hide hz1
            have HZ2 := hide hz2
            have HK3 := hide k3'
            have HLR := hide hLR'
            have HYS := hide hys
            have HMAP := hide hmap
            have HOL := hide hol
            have HWF := hide hwf
            have HNE := hide hne
            have HXWF := hide hxwf
            have HIB := hide hIB
            have hsz7 : b + 7 ≤ wr.heap.size := Nat.le_trans HPI.out.sz HVW.out.size
            clear hi0 hz0 hz1 hz2 k3 k3' hLR hLR' hys hmap hol hwf hne hxwf hIB hov hvl hn0 hb7
            gi_wp2_with (gi_at_builtin; (refine wpListIn_append_own _ rfl (.tmp 55) (.tmp 57) 22 rfl (b + 7) 44 i0 (.agg #[.string ⟨#[]⟩, .int .i64 0, .slice none 0 0]) 3 48 Tryz.underlying22 HI0.out HZ0.out HZ1.out HZ2.out rfl (by decide) _ _ _ rfl (HLR.out.row.alloc _) ⟨wr.heap.size, 0, none⟩ 1 1 [.string (ofl N0), .int .i64 hd, .slice cA vt.length cc] rfl rfl (news_l _ _ _) (by simp [Value.oneCell']) (by unfold maxLen; omega) (by omega) (by simp; omega) ?_; intro v5 w5 hr5 hg5 _; obtain ⟨g5, cap5, rfl⟩ := ownsRow_succ hr5; have hk5 : Boxed w5 (b + 1 + 1 + 1) 22 _ := (HK3.out.alloc _).kept hg5 (own_ne' HLR.out.row (by omega)); have r5 := hk5.cell; have f5 := hk5.frozen; have HR5 := hide hr5; have HG5 := hide hg5; clear hk5 hr5 hg5))
            all_goals exact push HBW.out HPI.out HVW.out HK3.out HLR.out HYS.out HMAP.out HOL.out HWF.out HNE.out HLIN.out HXWF.out HIB.out _ HG5.out HR5.out
  case done =>
    clear HTS HSS HST h0
    rintro D xs W hD rfl hPI hK
    obtain ⟨v, out, ys, k3, hLR, hys, hmap, hol, hwf⟩ := hPI.lr
    obtain ⟨A, c, hov⟩ := own_slice hLR.row
    rw [hov] at k3 hLR
    have hread : readP (bl s) = some (out.map FileD.bare) := by
      unfold readP
      rw [hmap]
      split
      · rfl
      · rw [HPS.out, HT.out, bl_ofl] at hys
        exact hys
    have hF := hLR.files hwf
    have hlw : LaidN W := HL.out.below hPI.bel
    have c0 := hPI.bs.cell
    have c3 := k3.cell
    have hszD : D < W.heap.size := (Array.getElem?_eq_some_iff.1 hK).1
    by_cases hr : rightB out = true
    · have HP := hide (print_good (c := c) hF hr hlw)
      obtain ⟨P, hP⟩ : ∃ P, P = ofl (printL out) := ⟨_, rfl⟩
      rw [← hP] at HP
      have HPE := hide hP
      have HR := hide hr
      have HPI := hide hPI
      have HLR := hide hLR
      have HK := hide hK
      have HREAD := hide hread
      have HF := hide hF
      have HWF := hide hwf
      have K3 := hide k3
      clear hP hPI hLR hK hread hF k3 hys hmap hol hwf hov hlw hr
      by_cases he : P = s
      · have e1 : (P.toList == s.toList) = true := by rw [he]; exact toL_eq s
        have HE := hide he
        clear he
        gi_wp2_with (refine ⟨trivial, ?_⟩; gi_at_call 6; refine (callsIn_wide.2 HP.out).mono ?_; rintro e w5 ⟨rfl, hb5⟩; have HB5 := hide hb5; have q0 := (hb5.block _ (by have := HPI.out.sz; omega)).trans HPI.out.bs; have q1 := (hb5.block _ (by have := HPI.out.sz; omega)).trans HPI.out.br; have q2 := (hb5.block _ (by have := HPI.out.sz; omega)).trans HPI.out.be; have q3 := (hb5.block _ (by have := HPI.out.sz; omega)).trans K3.out; have d0 := Boxed.cell q0; have d1 := Boxed.cell q1; have d2 := Boxed.cell q2; have d3 := Boxed.cell q3; have g1 := Boxed.frozen q1; have g2 := Boxed.frozen q2; have Q1 := hide q1; have Q2 := hide q2; clear hb5 q0 q1 q2 q3)
        refine parse_fin n HBW.out (by omega) rfl rfl ((HB5.out.block _ hszD).trans HK.out) Q1.out Q2.out (below_step HPI.out.bel HB5.out) fun hB => ⟨hB, .inr ⟨out, A, _, c, ?_, ?_, rfl⟩⟩
        · have hpe : printL out = bl s := by rw [← HE.out, HPE.out, bl_ofl]
          unfold parseP
          rw [HREAD.out]
          simp only
          rw [if_pos ⟨by rw [right_bare]; exact HR.out, by rw [printL_bare]; exact hpe⟩]
        · have hbx := HBW.out
          have hK6 : ((w5.setCell ⟨b + 1, 0, none⟩ (.slice A out.length c)).setCell ⟨b + 1 + 1, 0, none⟩ .nilIface).heap[D]? = some (.deferred (some [])) :=
            (Below.heap_setCell _ ⟨b + 1 + 1, 0, none⟩ _ D (by show D ≠ b + 1 + 1; omega)).trans ((Below.heap_setCell _ ⟨b + 1, 0, none⟩ _ D (by show D ≠ b + 1; omega)).trans ((HB5.out.block _ hszD).trans HK.out))
          exact ((((HLR.out.below HB5.out).off (grownBy_setC w5 (b + 1) 0 _) (fun r e => .inl (by cases e; omega))).off (grownBy_setC _ (b + 1 + 1) 0 _) (fun r e => .inl (by cases e; omega))).off (grownBy_putObj' _ D _) (fun r e => .inr (by cases e; exact ⟨_, hK6, rfl⟩))).files HWF.out
      · have e1 := toL_ne he
        have HE := hide he
        clear he
        gi_wp2_with (refine ⟨trivial, ?_⟩; gi_at_call 6; refine (callsIn_wide.2 HP.out).mono ?_; rintro e w5 ⟨rfl, hb5⟩; have HB5 := hide hb5; have q0 := (hb5.block _ (by have := HPI.out.sz; omega)).trans HPI.out.bs; have q1 := (hb5.block _ (by have := HPI.out.sz; omega)).trans HPI.out.br; have q2 := (hb5.block _ (by have := HPI.out.sz; omega)).trans HPI.out.be; have q3 := (hb5.block _ (by have := HPI.out.sz; omega)).trans K3.out; have d0 := Boxed.cell q0; have d1 := Boxed.cell q1; have d2 := Boxed.cell q2; have d3 := Boxed.cell q3; have g1 := Boxed.frozen q1; have g2 := Boxed.frozen q2; have Q1 := hide q1; have Q2 := hide q2; clear hb5 q0 q1 q2 q3)
        refine parse_fin n HBW.out (by omega) rfl rfl ((HB5.out.block _ hszD).trans HK.out) Q1.out Q2.out (below_step HPI.out.bel HB5.out) fun hB => ⟨hB, .inl ⟨?_, rfl⟩⟩
        unfold parseP
        rw [HREAD.out]
        simp only
        rw [if_neg (fun h => HE.out (by rw [HPE.out, ← printL_bare, h.2, ofl_bl]))]
    · have hr' : rightB out = false := by simpa using hr
      have HP := hide (print_bad (c := c) hF hr')
      have HR := hide hr'
      have HPI := hide hPI
      have HLR := hide hLR
      have HK := hide hK
      have HREAD := hide hread
      have HF := hide hF
      have HWF := hide hwf
      have K3 := hide k3
      clear hPI hLR hK hread hF k3 hys hmap hol hwf hov hlw hr hr'
      gi_wp2_with (refine ⟨trivial, ?_⟩; gi_at_call 6; refine (callsIn_wide.2 HP.out).mono ?_; rintro e w5 ⟨rfl, hb5⟩; have HB5 := hide hb5; have q0 := (hb5.block _ (by have := HPI.out.sz; omega)).trans HPI.out.bs; have q1 := (hb5.block _ (by have := HPI.out.sz; omega)).trans HPI.out.br; have q2 := (hb5.block _ (by have := HPI.out.sz; omega)).trans HPI.out.be; have q3 := (hb5.block _ (by have := HPI.out.sz; omega)).trans K3.out; have d0 := Boxed.cell q0; have d1 := Boxed.cell q1; have d2 := Boxed.cell q2; have d3 := Boxed.cell q3; have g1 := Boxed.frozen q1; have g2 := Boxed.frozen q2; have Q1 := hide q1; have Q2 := hide q2; clear hb5 q0 q1 q2 q3)
      refine parse_fin n HBW.out (by omega) rfl rfl ((HB5.out.block _ hszD).trans HK.out) Q1.out Q2.out (below_step HPI.out.bel HB5.out) fun hB => ⟨hB, .inl ⟨?_, rfl⟩⟩
      unfold parseP
      rw [HREAD.out]
      simp only
      rw [if_neg (fun h => by have h1 := h.1; rw [right_bare, HR.out] at h1; cases h1)]
  case stop =>
    clear HTS HSS HST h0
    rintro D c pre W hD ⟨k, rfl⟩ hPX hK
    obtain rfl := hPX.ret
    have hno : linesP (cutL 10 (bl T)) = none := by
      have h := linesP_none ((ps.drop k).map (·.1)) hPX.no
      rw [← List.map_append, List.take_append_drop, HPS.out] at h
      exact h
    have hpn : parseP (bl s) = none := by
      unfold parseP readP
      by_cases h0 : bl s = []
      · rw [HT.out, bl_ofl, h0] at hno
        exact absurd hno (by decide)
      · rw [HT.out, bl_ofl] at hno
        rw [if_neg h0, hno]
    have HPN := hide hpn
    have HPX := hide hPX
    have HK := hide hK
    clear hno hpn hPX hK
    gi_wp2
    exact parse_fin0 n rfl rfl HK.out HPX.out.br.cell HPX.out.be.cell ⟨HPX.out.bel.trans (belowK_b (w := w) (Nat.le_refl _) _ D _ _ (by have := HBW.out; omega) HK.out rfl rfl), .inl ⟨HPN.out, rfl⟩⟩
theorem parse_any (s : ByteArray) (hs : s.size ≤ 65536) {w : World} (hL : LaidN w) :
    Calls Tryz.prog 18 #[.string s] w fun e w' => Below w.heap.size w w' ∧
      ((parseP (bl s) = none ∧ e = .returned (.tuple #[.slice none 0 0, .iface 24 (.int .i64 3)])) ∨
       (∃ l A k c, parseP (bl s) = some (l.map FileD.bare) ∧ FilesAt w' A k l ∧ e = .returned (.tuple #[.slice A k c, .nilIface]))) :=
  (callsIn_wide (n := 6)).1 (parse_in 6 (by omega) s hs hL)
end Go.Proofs.YtmligbaalbbgiabGreatDoor

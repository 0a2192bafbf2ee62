/- The function salternref.above. Conditions: a number of at most 2^40; the second or third power; a number below 2^16. -/
import Derived.Test.YtmligbaalbbgiabDoorProg
import Derived.Test.YtmligbaalbbgiabDoorBase
import Derived.Test.YtmligbaalbbgiabDoorRootS
import Derived.Test.YtmligbaalbbgiabDoorRoot1
import Derived.Test.YtmligbaalbbgiabDoorSum3
namespace Go.Proofs.YtmligbaalbbgiabDoor
open Go.RowKit

theorem own_low {w : World} {base base' size n : Nat} {e : TypeId} {v : Value} {xs : List Value} (h : w.ownsRow base e size v n xs) (hb : base' ≤ base) : w.ownsRow base' e size v n xs := by
  refine ⟨h.1, ?_⟩
  rcases h.2 with h2 | ⟨g, cap, cur, h1, h2, h3⟩
  · exact .inl h2
  · exact .inr ⟨g, cap, cur, h1, Nat.le_trans hb h2, h3⟩
theorem below_drewN {B : Nat} {a w : World} (h : Below B a w) (n : Nat) : Below B a (w.drewN n) := ⟨h.os, h.tape, h.output, h.size, h.block⟩
theorem val_snoc0 (a : List Nat) : val (a ++ [0]) = val a := by rw [val_append]; simp [val]
theorem Digits.snoc {a : List Nat} (h : Digits a) {d : Nat} (hd : d < 65536) : Digits (a ++ [d]) := by
  intro x hx
  rcases List.mem_append.1 hx with h1 | h1
  · exact h x h1
  · rw [List.mem_singleton.1 h1]; exact hd
theorem Digits.zeros (n : Nat) : Digits (List.replicate n 0) := by
  intro x hx
  rw [List.eq_of_mem_replicate hx]
  omega
theorem made_u64 (n : Nat) : (madeCells (Value.int .u64 0).cells n).toList = numsV (List.replicate n 0) := by
  apply List.ext_getElem
  · simp [numsV, size_madeCells]
  · intro i h1 h2
    simp [madeCells, numsV, nv, Value.cells, Nat.mod_one]
/-- Two rows of the call's own, apart. -/
structure TwoR (w0 wr : World) (v u : Value) (a b : List Nat) : Prop where
  own1 : wr.ownsRow w0.heap.size 128 1 v a.length (numsV a)
  own2 : wr.ownsRow w0.heap.size 128 1 u b.length (numsV b)
  ne : ∀ g, v.ownBlock = some g → u.ownBlock ≠ some g
  frame : Below w0.heap.size w0 wr
theorem TwoR.symm {w0 wr : World} {v u : Value} {a b : List Nat} (h : TwoR w0 wr v u a b) : TwoR w0 wr u v b a :=
  ⟨h.own2, h.own1, fun g hg he => h.ne g he hg, h.frame⟩
theorem TwoR.put {w0 wr w' : World} {v u : Value} {a b : List Nat} (h : TwoR w0 wr v u a b) (o : Obj) {g cap m : Nat} {d : Nat}
    (hr : w'.ownsRow w0.heap.size 128 1 (.slice (some ⟨g, 0, none⟩) m cap) m (numsV a ++ numsV [d])) (hm : m = a.length + 1)
    (hg : (wr.alloc o).grownBy w' v.ownBlock) (hat : v.ownBlock = some g ∨ g = wr.heap.size + 1) : TwoR w0 w' (.slice (some ⟨g, 0, none⟩) m cap) u (a ++ [d]) b := by
  subst hm
  have hu : ∀ k, u.ownBlock = some k → k < wr.heap.size := fun k hk => (h.own2.lt k hk).2
  have hsz := h.frame.size
  refine ⟨?_, ?_, ?_, ?_⟩
  · rw [numsV_append, List.length_append]
    exact hr
  · refine (h.own2.alloc o).kept hg ?_
    cases hub : u.ownBlock with
    | none => exact .inl rfl
    | some k =>
      right
      intro he
      exact h.ne k he.symm hub
  · intro k hk he
    have hk' : g = k := by simpa [Value.ownBlock] using hk
    subst hk'
    rcases hat with h1 | h1
    · exact h.ne g h1 he
    · have := hu g he
      omega
  · exact (h.frame.alloc hsz o).grown hg (by simp; omega) (fun q hq => (h.own1.lt q hq).1)
theorem TwoR.make {w0 wr w' : World} {v : Value} {a : List Nat} {n : Nat} (h : TwoR w0 wr v (.slice none 0 0) a [])
    (hr : w'.ownsRow w0.heap.size 128 1 (.slice (some ⟨wr.heap.size, 0, none⟩) n n) n (numsV (List.replicate n 0))) (hg : wr.grownBy w' none) :
    TwoR w0 w' v (.slice (some ⟨wr.heap.size, 0, none⟩) n n) a (List.replicate n 0) := by
  refine ⟨h.own1.kept hg ?_, ?_, ?_, h.frame.grown hg h.frame.size (fun k hk => by cases hk)⟩
  · cases hv : v.ownBlock with
    | none => exact .inl rfl
    | some k => exact .inr (by simp)
  · rw [List.length_replicate]; exact hr
  · intro k hk he
    have := (h.own1.lt k hk).2
    have h2 : wr.heap.size = k := by simpa [Value.ownBlock] using he
    omega
theorem TwoR.own2' {w0 wr : World} {v u : Value} {a : List Nat} {n : Nat} (h : TwoR w0 wr v u a (List.replicate n 0)) : wr.ownsRow w0.heap.size 128 1 u n (numsV (List.replicate n 0)) := by
  have := h.own2
  rwa [List.length_replicate] at this

set_option maxRecDepth 100000 in
set_option maxHeartbeats 4000000 in
theorem above_any (x k p : Nat) (hx : x ≤ 1099511627776) (hk2 : 2 ≤ k) (hk3 : k ≤ 3) (hp : p < 65536) (w : World) :
    Calls Tryd.prog 128 #[.int .u64 (x : Int), .int .i64 (k : Int), .int .u64 (p : Int)] w fun e w' => e = .returned (.bool (decide (p * 2 ^ (32 * k) < x ^ k))) ∧ Below w.heap.size w w' := by
  obtain ⟨i0, hi0, hz0, hz1, hz2⟩ := info_parts info_u64
  go_enter Tryd.func128, Tryd.ntmps128
  go_wp2
  go_loopw [7, 12] (fun v j wr => ∃ (o : List Nat) (J : Nat), j = .int .i64 (J : Int) ∧ J ≤ k ∧ val o = x ^ J ∧ Digits o ∧ 0 < o.length ∧ o.length ≤ 1 + 3 * J ∧ Below w.heap.size w wr ∧ wr.ownsRow w.heap.size 128 1 v o.length (numsV o)) (fun _ j _ => k - (intOf j).toNat)
  case atStart =>
    refine ⟨[1], 0, rfl, by omega, by simp [val], (fun d hd => by rw [List.mem_singleton.1 hd]; omega), by simp, by simp, (Below.refl _ _).alloc (Nat.le_refl _) _, ?_⟩
    exact World.ownsRow_lit (size := 1) w #[.int .u64 1] 1 (Nat.le_refl _) (by decide) rfl
  case round =>
    obtain ⟨wa, rfl⟩ : ∃ wa : World, wa = wr := ⟨_, rfl⟩
    obtain ⟨o, J, rfl, hJ, hval, hdo, hpos, hlen, hbel, hown⟩ := hrel
    have HV := hide hval
    have HDO := hide hdo
    have HBE := hide hbel
    clear hval hdo hbel
    by_cases hlt : J < k
    · have b0 : decide (J < k) = true := by simpa using hlt
      obtain ⟨g, cap, rfl, hg1, hg2⟩ := hown.form hpos
      have HN := hide (NRow.of_own hown)
      clear hown
      go_wp2_with (go_at_call 151; refine (times_any g cap o x hpos (by omega) HDO.out hx _ HN.out).mono ?_; rintro e w1 ⟨v1, o1, rfl, hw1, hv1, hd1, hl1, hl2, hb1⟩; have HB1 := hide (below_step HBE.out hb1); have HW1 := hide hw1; have HD1 := hide hd1; have HV1 := hide hv1; clear hb1 hw1 hd1 hv1)
      refine ⟨⟨o1, J + 1, by go_num, by omega, ?_, HD1.out, by omega, by omega, HB1.out, own_low HW1.out HBE.out.size⟩, by simp [intOf]; omega⟩
      rw [HV1.out, HV.out, Nat.pow_succ]
    · obtain rfl : J = k := by omega
      have b0 : decide (J < J) = false := by simp
      clear hlt hJ
      have h2k : Hid (((2 : Int) * (J : Int)) = ((2 * J : Nat) : Int)) := hide (by omega)
      obtain ⟨g, cap, rfl, hg1, hg2⟩ := hown.form hpos
      have HT0 : Hid (TwoR w wa (.slice (some ⟨g, 0, none⟩) o.length cap) (.slice none 0 0) o []) := hide ⟨hown, World.ownsRow_nil _ _ _ _, fun k _ h => (by cases h), HBE.out⟩
      have HV1 : Hid (val (List.replicate (2 * J) 0 ++ [p]) = p * 2 ^ (32 * J)) := hide (by
        rw [val_append, val_zeros, List.length_replicate]
        simp only [val, Nat.mul_zero, Nat.add_zero, Nat.zero_add]
        rw [show (65536 : Nat) = 2 ^ 16 from rfl, ← Nat.pow_mul, show 16 * (2 * J) = 32 * J from by omega, Nat.mul_comm])
      have hP : Hid (p < 65536) := hide hp
      have HPl : Hid ((List.replicate (2 * J) 0 ++ [p]).length = 2 * J + 1) := hide (by simp)
      clear hown
      go_wp2_with (first
        | (refine wpList_make_full _ rfl (.tmp 19) (.tmp 19) 210 rfl w.heap.size 128 i0 (.int .u64 0) 1 Tryd.underlying210 hi0 hz0 hz1 .i64 .i64 (2 * (J : Int)) (2 * (J : Int)) (2 * J) rfl rfl h2k.out h2k.out (by rw [hz2]; omega) (by unfold maxLen; omega) HBE.out.size ?_; intro w2 hr2 hg2
           rw [Nat.mul_one, made_u64] at hr2
           have HT2 := hide (HT0.out.make hr2 hg2)
           clear hr2 hg2)
        | (at_builtin; (refine wpList_append_lies _ rfl (.tmp 20) (.tmp 22) 210 rfl w.heap.size 128 i0 (.int .u64 0) 1 8 Tryd.underlying210 hi0 hz0 hz1 hz2 rfl (by decide) _ _ _ rfl (HT2.out.own2'.alloc _) ⟨w2.heap.size, 0, none⟩ 1 1 (numsV [p]) rfl rfl (news_new w2 _ _) (numsV_oneCell _) (by decide) (by unfold maxLen; omega) (by omega) (by have := HT2.out.frame.size; simp; omega) (w2.heap.size + 1) (by simp) ?_; intro gu cu w3 hr3 hg3 ha3 _; have HT3 := hide (HT2.out.symm.put _ hr3 (by simp) hg3 ha3).symm; clear hr3 hg3 ha3 HT0 HT2)))
      obtain ⟨b, hb⟩ : ∃ b, b = List.replicate (2 * J) 0 ++ [p] := ⟨_, rfl⟩
      rw [← hb] at HT3 HV1 HPl
      have HDB : Hid (Digits b) := hide (by rw [hb]; exact (Digits.zeros _).snoc hP.out)
      obtain ⟨M, hM⟩ : ∃ M, M = 2 * J + 1 := ⟨_, rfl⟩
      rw [← hM] at HT3 HPl ⊢
      have hM5 : 5 ≤ M := by omega
      have hM7 : M ≤ 7 := by omega
      have hJ10 : 1 + 3 * J ≤ 10 := by omega
      have ho10 : o.length ≤ 10 := by omega
      obtain ⟨X, hX⟩ : ∃ X, X = x ^ J := ⟨_, rfl⟩
      obtain ⟨P, hPd⟩ : ∃ P, P = p * 2 ^ (32 * J) := ⟨_, rfl⟩
      rw [← hX] at HV
      rw [← hPd] at HV1
      have HX := hide hX
      have HPd := hide hPd
      clear hb hM hX hPd hJ10 hP h2k hlen hp HBE hg1 hg2
      go_loopw [7] (fun v wr => ∃ (a : List Nat), TwoR w wr v (.slice (some ⟨gu, 0, none⟩) M cu) a b ∧ val a = X ∧ Digits a ∧ 0 < a.length ∧ a.length ≤ 10) (fun v _ => 20 - lenV v)
      case atStart => exact ⟨o, HT3.out, HV.out, HDO.out, hpos, ho10⟩
      case round =>
        clear HT3 HV HDO hpos ho10
        obtain ⟨wb, rfl⟩ : ∃ wb : World, wb = wr := ⟨_, rfl⟩
        obtain ⟨a, hT, hva, hda, hpa, hla⟩ := hrel
        obtain ⟨ga, ca, rfl, _, _⟩ := hT.own1.form hpa
        have HT := hide hT
        have HVA := hide hva
        have HDA := hide hda
        clear hT hva hda
        by_cases hlt : a.length < M
        · have b0 : decide (a.length < M) = true := by simpa using hlt
          go_wp2_with (at_builtin; (refine wpList_append_lies _ rfl (.tmp 29) (.tmp 30) 210 rfl w.heap.size 128 i0 (.int .u64 0) 1 8 Tryd.underlying210 hi0 hz0 hz1 hz2 rfl (by decide) _ _ _ rfl (HT.out.own1.alloc _) ⟨wb.heap.size, 0, none⟩ 1 1 (numsV [0]) rfl rfl (news_new wb _ _) (numsV_oneCell _) (by decide) (by unfold maxLen; omega) (by omega) (by have := HT.out.frame.size; simp; omega) (wb.heap.size + 1) (by simp) ?_; intro gv cv w4 hr4 hg4 ha4 _; have HT4 := hide (HT.out.put _ hr4 rfl hg4 ha4); clear hr4 hg4 ha4))
          refine ⟨⟨a ++ [0], HT4.out, by rw [val_snoc0]; exact HVA.out, HDA.out.snoc (by omega), by simp, by simp; omega⟩, ?_⟩
          simp [lenV]; omega
        · have b0 : decide (a.length < M) = false := by simpa using hlt
          go_wp2
          obtain ⟨N, hN⟩ : ∃ N, N = a.length := ⟨_, rfl⟩
          rw [← hN] at HT hpa hla hlt ⊢
          have hMN : M ≤ N := by omega
          have HN := hide hN
          clear hN b0 hlt
          go_loopw [8] (fun u wr => ∃ (c : List Nat), TwoR w wr (.slice (some ⟨ga, 0, none⟩) N ca) u a c ∧ val c = P ∧ Digits c ∧ 0 < c.length ∧ c.length ≤ N) (fun u _ => 20 - lenV u)
          case atStart => exact ⟨b, HT.out, HV1.out, HDB.out, by rw [HPl.out]; omega, by rw [HPl.out]; exact hMN⟩
          case round =>
            clear HT HV1 HDB HPl
            obtain ⟨wc, rfl⟩ : ∃ wc : World, wc = wr := ⟨_, rfl⟩
            obtain ⟨c, hT, hvc, hdc, hpc, hlc⟩ := hrel
            obtain ⟨gc, cc, rfl, _, _⟩ := hT.own2.form hpc
            have HT := hide hT
            have HVC := hide hvc
            have HDC := hide hdc
            clear hT hvc hdc
            by_cases hlt : c.length < N
            · have b0 : decide (c.length < N) = true := by simpa using hlt
              go_wp2_with (at_builtin; (refine wpList_append_lies _ rfl (.tmp 37) (.tmp 38) 210 rfl w.heap.size 128 i0 (.int .u64 0) 1 8 Tryd.underlying210 hi0 hz0 hz1 hz2 rfl (by decide) _ _ _ rfl (HT.out.own2.alloc _) ⟨wc.heap.size, 0, none⟩ 1 1 (numsV [0]) rfl rfl (news_new wc _ _) (numsV_oneCell _) (by decide) (by unfold maxLen; omega) (by omega) (by have := HT.out.frame.size; simp; omega) (wc.heap.size + 1) (by simp) ?_; intro gv cv w4 hr4 hg4 ha4 _; have HT4 := hide (HT.out.symm.put _ hr4 rfl hg4 ha4).symm; clear hr4 hg4 ha4))
              refine ⟨⟨c ++ [0], HT4.out, by rw [val_snoc0]; exact HVC.out, HDC.out.snoc (by omega), by simp, by simp; omega⟩, ?_⟩
              simp [lenV]; omega
            · have b0 : decide (c.length < N) = false := by simpa using hlt
              go_wp2
              have hlN : c.length = N := by omega
              have HLN := hide hlN
              rw [hlN] at HT
              have HA : Hid (NRow wc ga a) := hide (NRow.of_own (by have := HT.out.own1; rwa [← HN.out] at this))
              have HC : Hid (NRow wc gc c) := hide (NRow.of_own (by have := HT.out.own2; rwa [HLN.out] at this))
              have HB : Hid (Below w.heap.size w wc) := hide HT.out.frame
              clear HT b0 hlt hlc
              rw [hlN] at hpc ⊢
              clear hlN
              go_loopw [9] (fun i wr => ∃ I : Nat, i = .int .i64 ((I : Int) - 1) ∧ I ≤ N ∧ a.drop I = c.drop I ∧ Below w.heap.size w wr ∧ NRow wr ga a ∧ NRow wr gc c) (fun i _ => (intOf i + 1).toNat)
              case atStart => exact ⟨N, rfl, Nat.le_refl _, by rw [List.drop_of_length_le (by rw [← HN.out]; exact Nat.le_refl _), List.drop_of_length_le (by rw [HLN.out]; exact Nat.le_refl _)], HB.out, HA.out, HC.out⟩
              case round =>
                clear HA HC HB
                obtain ⟨wd, rfl⟩ : ∃ wd : World, wd = wr := ⟨_, rfl⟩
                obtain ⟨I, rfl, hI, hdr, hbel, hra, hrc⟩ := hrel
                have HDR := hide hdr
                have HBE := hide hbel
                have HRA := hide hra
                have HRC := hide hrc
                clear hdr hbel hra hrc
                cases I with
                | zero =>
                  rw [show ((0 : Nat) : Int) - 1 = -1 from rfl]
                  go_wp2
                  go_ret
                  have e : a = c := HDR.out
                  refine ⟨?_, HBE.out⟩
                  rw [← HX.out, ← HPd.out, ← HVA.out, ← HVC.out, e]
                  simp
                | succ i =>
                  rw [show ((i + 1 : Nat) : Int) - 1 = (i : Int) from by omega]
                  have hiN : i < N := by omega
                  have hiN' : (i : Int) < (N : Int) := by omega
                  have c0 : decide ((0 : Int) ≤ (i : Int)) = true := by simp
                  have ca1 := HRA.out i (by rw [← HN.out]; exact hiN)
                  have cc1 := HRC.out i (by rw [HLN.out]; exact hiN)
                  obtain ⟨A, hA⟩ : ∃ A, A = nth a i := ⟨_, rfl⟩
                  obtain ⟨C, hC⟩ : ∃ C, C = nth c i := ⟨_, rfl⟩
                  rw [← hA] at ca1
                  rw [← hC] at cc1
                  have HAe := hide hA
                  have HCe := hide hC
                  clear hA hC
                  by_cases hne : A = C
                  · have t0 : ((A : Int) != (C : Int)) = false := by rw [hne]; simp
                    have t1 : (A != C) = false := by rw [hne]; simp
                    have HNE := hide hne
                    clear hne
                    go_upto_region 14 with fail
                    go_quiet (fail)
                    go_wp2
                    refine ⟨⟨i, by go_num, by omega, drop_eq_next (by rw [← HN.out, HLN.out]) i (by rw [← HN.out]; exact hiN) HDR.out (by rw [← HAe.out, ← HCe.out]; exact HNE.out), below_drewN HBE.out _, HRA.out, HRC.out⟩, by simp [intOf]⟩
                  · have t0 : ((A : Int) != (C : Int)) = true := by simp; omega
                    have t1 : (A != C) = true := by simp; omega
                    have HNE := hide hne
                    clear hne
                    go_upto_region 14 with fail
                    go_quiet (fail)
                    go_upto_region 15 with fail
                    go_quiet (fail)
                    go_wp2
                    go_ret
                    refine ⟨?_, below_drewN (below_drewN HBE.out _) _⟩
                    have h1 := val_cmp HDA.out HDC.out (by rw [← HN.out, HLN.out]) i (by rw [← HN.out]; exact hiN) HDR.out (by rw [← HAe.out, ← HCe.out]; exact HNE.out)
                    rw [← HX.out, ← HPd.out, ← HVA.out, ← HVC.out]
                    rw [← HAe.out, ← HCe.out] at h1
                    congr 2
                    simp [← h1]
end Go.Proofs.YtmligbaalbbgiabDoor

/- The function salternref.Block, of arguments that may be: the block that the program's text gives. Conditions: a key of 32 bytes, a nonce of 12, a number of 32 bits. -/
import Derived.Test.YtmligbaalbbgiabDoorProg
import Derived.Test.YtmligbaalbbgiabDoorBase
import Derived.Test.YtmligbaalbbgiabDoorRefStream0
import Derived.Test.YtmligbaalbbgiabDoorRefStream1
import Derived.Test.YtmligbaalbbgiabDoorRefStreamS
import Derived.RangeFuncBox
namespace Go.Proofs.YtmligbaalbbgiabDoor
open Go.RowKit

theorem mix_int (g cap : Nat) (l : List Nat) (a b c d : Int) (hl : l.length = 16) (hw : Words32 l) (ha0 : 0 ≤ a) (hb0 : 0 ≤ b) (hc0 : 0 ≤ c) (hd0 : 0 ≤ d) (ha : a < 16) (hb : b < 16) (hc : c < 16) (hd : d < 16) (w : World) (hR : WRow w g l) :
    Calls Tryd.prog 154 #[.slice (some ⟨g, 0, none⟩) 16 cap, .agg #[.int .i64 a, .int .i64 b, .int .i64 c, .int .i64 d]] w
      fun e w' => e = .returned (.tuple #[]) ∧ WRow w' g (qround l a.toNat b.toNat c.toNat d.toNat) ∧ w.grownBy w' (some g) := by
  obtain ⟨a, rfl⟩ := Int.eq_ofNat_of_zero_le ha0
  obtain ⟨b, rfl⟩ := Int.eq_ofNat_of_zero_le hb0
  obtain ⟨c, rfl⟩ := Int.eq_ofNat_of_zero_le hc0
  obtain ⟨d, rfl⟩ := Int.eq_ofNat_of_zero_le hd0
  exact mix_any g cap l a b c d hl hw (by omega) (by omega) (by omega) (by omega) w hR
theorem ownsRow_below {w w' : World} {base T n B : Nat} {v : Value} {xs : List Value} (h : w.ownsRow base T 1 v n xs) (hb : Below B w w') (hB : w.heap.size ≤ B) : w'.ownsRow base T 1 v n xs := by
  have hl := h.lt
  refine ⟨h.1, ?_⟩
  rcases h.2 with h2 | ⟨g, cap, cur, rfl, h3, h4, h5⟩
  · exact .inl h2
  · exact .inr ⟨g, cap, cur, rfl, h3, (hb.block g (by have := (hl g rfl).2; omega)).trans h4, h5⟩
theorem w4_take (X j : Nat) (h : j < 4) : (w4 X).take (j + 1) = (w4 X).take j ++ [UInt8.ofNat (X / 256 ^ j % 256)] := by
  have e : ∀ n : Nat, UInt8.ofNat (n % 256) = UInt8.ofNat n := by
    intro n
    apply UInt8.toNat_inj.1
    simp
  rw [e]
  rcases (show j = 0 ∨ j = 1 ∨ j = 2 ∨ j = 3 by omega) with rfl | rfl | rfl | rfl
  · simp [w4]
  · simp [w4]
  · simp [w4]
  · simp [w4]
/-- Two rows of words, the first at g, the second at h. -/
structure Two (w wr : World) (g h : Nat) (S T : List Nat) : Prop where
  one : WRow wr g S
  two : WRow wr h T
  bel : Below w.heap.size w wr
  ord : g < h
  siz : h < wr.heap.size

theorem Two.alloc {w wr : World} {g h : Nat} {S T : List Nat} (t : Two w wr g h S T) (o : Obj) : Two w (wr.alloc o) g h S T :=
  ⟨t.one.of_block (Below.heap_alloc wr o g (by have := t.ord; have := t.siz; omega)), t.two.of_block (Below.heap_alloc wr o h t.siz), t.bel.alloc t.bel.size o, t.ord, by have := t.siz; simp; omega⟩
theorem Two.next {w wr w1 : World} {g h : Nat} {S T T' : List Nat} (t : Two w wr g h S T) (hwh : w.heap.size ≤ h) (h1 : WRow w1 h T') (hg : wr.grownBy w1 (some h)) : Two w w1 g h S T' :=
  ⟨t.one.of_block (hg.block g (by have := t.ord; have := t.siz; omega) (by have := t.ord; intro e; injection e; omega)), h1, t.bel.grown hg t.bel.size (fun q hq => by cases hq; exact hwh), t.ord, by have := t.siz; have := hg.size; omega⟩
set_option maxRecDepth 100000 in
set_option maxHeartbeats 4000000 in
theorem refBlock_good (key nonce : ByteArray) (n : Nat) (hk : key.size = 32) (hn : nonce.size = 12) (h1 : n < 4294967296) (w : World) :
    Calls Tryd.prog 130 #[.string key, .int .i64 (n : Int), .string nonce] w fun e w' => e = .returned (.tuple #[.string (ofl (block64 (bl key) (bl nonce) n)), .int .i64 0]) ∧ Below w.heap.size w w' := by
  have t1 : ((key.size : Int) != 32) = false := by simp; omega
  have t2 : ((nonce.size : Int) != 12) = false := by simp; omega
  have t3 : (decide ((0 : Int) ≤ (n : Int)) && decide ((n : Int) ≤ 4294967295)) = true := by simp; omega
  have s1 : (expandT ++ key).size = 48 := by rw [ByteArray.size_append, hk]; rfl
  have k1 : key.size ≤ 32 := by omega
  have HS1 := hide s1
  have n12 : nonce.size / 4 = 3 := by omega
  have HN := hide hn
  have HN3 := hide n12
  clear hk hn s1 n12
  obtain ⟨i0, hi0, hz0, hz1, hz2⟩ := info_parts info_u32
  go_enter Tryd.func130, Tryd.ntmps130
  have q12 : ((⟨#[101, 120, 112, 97, 110, 100, 32, 51, 50, 45, 98, 121, 116, 101, 32, 107]⟩ : ByteArray) ++ key).size / 4 = 12 := by have := HS1.out; unfold expandT at this; omega
  have Q12 := hide q12
  clear q12
  obtain ⟨L1, hL1⟩ : ∃ L, L = wordsL (bl ((⟨#[101, 120, 112, 97, 110, 100, 32, 51, 50, 45, 98, 121, 116, 101, 32, 107]⟩ : ByteArray) ++ key)) 12 := ⟨_, rfl⟩
  have HL1 := hide hL1
  clear hL1
  go_wp2_with (first
    | (go_at_call 81; refine (in_any _ _ _ _).mono ?_; rintro e w1 ⟨rfl, rfl⟩; rw [t3])
    | (go_at_call 153; refine (words_any _ (by have := HS1.out; unfold expandT at this; omega) w).mono ?_; rintro e w1 ⟨v1, rfl, hr1, hb1⟩; rw [Q12.out, ← HL1.out] at hr1; obtain ⟨g1, cap1, rfl⟩ := ownsRow_succ hr1; have HR1 := hide hr1; have HB1 := hide hb1; clear hr1 hb1)
    | (at_builtin; refine wpList_append_own _ rfl (.tmp 32) (.tmp 35) 213 rfl w.heap.size 121 i0 (.int .u32 0) 1 4 Tryd.underlying213 hi0 hz0 hz1 hz2 rfl (by decide) _ _ _ rfl (HR1.out.alloc _) ⟨w1.heap.size, 0, none⟩ 1 1 (wordsV [n]) rfl rfl (news_new w1 _ _) (wordsV_oneCell _) (by unfold maxLen; omega) (by omega) (by have := HB1.out.size; simp; omega) ?_; intro v2 w2 hr2 hg2 _; obtain ⟨g2, cap2, rfl⟩ := ownsRow_succ hr2; have HR2 := hide hr2; have HB2 := hide ((HB1.out.alloc HB1.out.size _).grown hg2 (by have := HB1.out.size; simp; omega) (fun q hq => (HR1.out.lt q hq).1)); clear hr2 hg2 HR1 HB1)
    | (go_at_call 153; refine (words_any _ (by have := HN.out; omega) w2).mono ?_; rintro e w3 ⟨v3, rfl, hr3, hb3⟩; rw [HN3.out] at hr3; obtain ⟨g3, cap3, rfl⟩ := ownsRow_succ hr3; have HR3 := hide hr3; have HR23 := hide (ownsRow_below HR2.out hb3 (Nat.le_refl _)); have HB3 := hide (below_step HB2.out hb3); clear hr3 hb3 HR2 HB2)
    | (at_builtin; refine wpList_append_own _ rfl (.tmp 36) (.tmp 38) 213 rfl w.heap.size 121 i0 (.int .u32 0) 1 4 Tryd.underlying213 hi0 hz0 hz1 hz2 rfl (by decide) _ _ _ rfl HR23.out ⟨g3, 0, none⟩ 3 cap3 (wordsV (wordsL (bl nonce) 3)) rfl rfl (HR3.out.cells rfl) (wordsV_oneCell _) (by unfold maxLen; omega) (by omega) HB3.out.size ?_; intro v4 wf hr4 hg4 _; rw [← wordsV_append, ← wordsV_append] at hr4; obtain ⟨g4, cap4, rfl⟩ := ownsRow_succ (k := 15) hr4; have HR4 := hide hr4; have HB4 := hide (HB3.out.grown hg4 HB3.out.size (fun q hq => (HR23.out.lt q hq).1)); clear hr4 hg4 HR3 HB3 HR23)
    | (at_builtin; refine wpList_append_own _ rfl (.tmp 40) (.tmp 41) 213 rfl wf.heap.size 121 i0 (.int .u32 0) 1 4 Tryd.underlying213 hi0 hz0 hz1 hz2 rfl (by decide) _ _ _ rfl (World.ownsRow_made wf #[] 0 (Nat.le_refl _) (by decide) rfl) ⟨g4, 0, none⟩ 16 cap4 (wordsV (L1 ++ [n] ++ wordsL (bl nonce) 3)) rfl (by rw [wordsV_length, List.length_append, List.length_append, HL1.out, wordsL_length, wordsL_length]; rfl) ((HR4.out.alloc _).cells rfl) (wordsV_oneCell _) (by unfold maxLen; omega) (by omega) (by simp) ?_; intro v5 w5 hr5 hg5 _; obtain ⟨g5, cap5, rfl⟩ := ownsRow_succ (k := 15) hr5; have HR5 := hide hr5; have HG5 := hide hg5; clear hr5 hg5))
  obtain ⟨S, hS⟩ : ∃ S, S = L1 ++ [n] ++ wordsL (bl nonce) 3 := ⟨_, rfl⟩
  have HT : Hid (Two w w5 g4 g5 S S) := by
    have h4 := HR4.out
    have h5 := HR5.out
    have hb4 := HB4.out
    rw [← hS] at h4 h5
    have hg5 : (wf.alloc (Obj.cells #[] 121)).grownBy w5 (some wf.heap.size) := HG5.out
    have l4 := h4.lt g4 rfl
    have l5 := h5.lt g5 rfl
    refine hide ⟨(rowOf h4).of_block ?_, rowOf h5, (hb4.alloc hb4.size _).grown hg5 (by have := hb4.size; simp; omega) (fun q hq => by cases hq; exact hb4.size), by omega, l5.2⟩
    exact (hg5.block g4 (by simp; omega) (by intro e; injection e; omega)).trans (Below.heap_alloc wf _ g4 (by omega))
  have hS' : S = start16 (bl key) (bl nonce) n := by
    rw [← refStart_eq, hS, HL1.out]
    rfl
  have HS := hide hS'
  have HSl : Hid (S.length = 16) := hide (by rw [hS', start16_length])
  have HSw : Hid (Words32 S) := hide (by rw [hS']; exact start16_words _ _ _ h1)
  have HWH : Hid (w.heap.size ≤ g5) := hide (by have := HB4.out.size; have := (HR5.out.lt g5 rfl).1; omega)
  clear hS hS' HR4 HB4 HR5 HG5 HL1 Q12 HS1 HN HN3 t3 t1 t2 k1 hi0 hz0 hz1 hz2
  go_loopw [43] (fun i wr => ∃ k : Nat, k ≤ 20 ∧ i = .int .i64 (k : Int) ∧ Two w wr g4 g5 S (halves k S)) (fun i _ => 20 - (intOf i).toNat)
  case atStart => exact ⟨0, by omega, rfl, HT.out⟩
  case round =>
    clear HT
    obtain ⟨wo, rfl⟩ : ∃ wo : World, wo = wr := ⟨_, rfl⟩
    obtain ⟨k, hk, rfl, hT⟩ := hrel
    by_cases hlt : k < 20
    · obtain ⟨R, hR⟩ : ∃ R, R = halves k S := ⟨_, rfl⟩
      rw [← hR] at hT
      have HR := hide hR
      have HRl : Hid (R.length = 16) := hide (by rw [hR, halves_length, HSl.out])
      have HRw : Hid (Words32 R) := hide (by rw [hR]; exact halves_words k HSw.out)
      have HT := hide hT
      clear hR hT
      have b0 : decide ((k : Int) < 20) = true := by simp; omega
      go_wp2
      go_loopw [46] (fun i wq => ∃ j : Nat, j ≤ 4 ∧ i = .int .i64 (j : Int) ∧ Two w wq g4 g5 S (halfUp k j R)) (fun i _ => 4 - (intOf i).toNat)
      case atStart => exact ⟨0, by omega, rfl, by unfold halfUp; split <;> exact HT.out⟩
      case round =>
        clear HT
        obtain ⟨j, hj, rfl, hT⟩ := hrel
        by_cases hjl : j < 4
        · have HT := hide hT
          clear hT
          have c0 : decide ((j : Int) < 4) = true := by simp; omega
          by_cases hp : k % 2 = 1
          · have b1 : ((k : Int) % 2 == 1) = true := by simp; omega
            go_wp2_with (go_at_call 154; refine (mix_int g5 cap5 (halfUp k j R) _ _ _ _ (by rw [halfUp_length, HRl.out]) (halfUp_words k j HRw.out) (by omega) (by omega) (by omega) (by omega) (by omega) (by omega) (by omega) (by omega) _ (HT.out.alloc _).two).mono ?_; rintro e wq ⟨rfl, hq1, hq2⟩; have HT2 := hide ((HT.out.alloc _).next HWH.out hq1 hq2); clear hq1 hq2)
            go_roundw
            case rel =>
              refine ⟨j + 1, by omega, by go_num, ?_⟩
              have e : halfUp k (j + 1) R = qround (halfUp k j R) j (4 + (j + 1) % 4) (8 + (j + 2) % 4) (12 + (j + 3) % 4) := by
                unfold halfUp
                rw [if_pos hp, if_pos hp]
                rfl
              rw [e]
              exact HT2.out
            case measure => simp [intOf]; omega
          · have b1 : ((k : Int) % 2 == 1) = false := by simp; omega
            go_wp2_with (go_at_call 154; refine (mix_int g5 cap5 (halfUp k j R) _ _ _ _ (by rw [halfUp_length, HRl.out]) (halfUp_words k j HRw.out) (by omega) (by omega) (by omega) (by omega) (by omega) (by omega) (by omega) (by omega) _ (HT.out.alloc _).two).mono ?_; rintro e wq ⟨rfl, hq1, hq2⟩; have HT2 := hide ((HT.out.alloc _).next HWH.out hq1 hq2); clear hq1 hq2)
            go_roundw
            case rel =>
              refine ⟨j + 1, by omega, by go_num, ?_⟩
              have e : halfUp k (j + 1) R = qround (halfUp k j R) j (4 + j) (8 + j) (12 + j) := by
                unfold halfUp
                rw [if_neg hp, if_neg hp]
                rfl
              rw [e]
              exact HT2.out
            case measure => simp [intOf]; omega
        · obtain rfl : j = 4 := by omega
          rw [show ((4 : Nat) : Int) = 4 from rfl]
          have HT := hide hT
          clear hT hj hjl
          go_wp2
          go_roundw
          case rel =>
            refine ⟨k + 1, by omega, by go_num, ?_⟩
            have h := HT.out
            rw [HR.out] at h
            exact h
          case measure => simp [intOf]; omega
    · obtain rfl : k = 20 := by omega
      rw [show ((20 : Nat) : Int) = 20 from rfl]
      obtain ⟨R, hR⟩ : ∃ R, R = halves 20 S := ⟨_, rfl⟩
      rw [← hR] at hT
      have HR := hide hR
      have HRl : Hid (R.length = 16) := hide (by rw [hR, halves_length, HSl.out])
      have HRw : Hid (Words32 R) := hide (by rw [hR]; exact halves_words 20 HSw.out)
      have HT := hide hT
      clear hR hT hk hlt
      go_wp2
      go_loopw [13, 81] (fun o i wq => ∃ k : Nat, k ≤ 16 ∧ i = .int .i64 (k : Int) ∧ o = .string (ofl (outB R S k)) ∧ Two w wq g4 g5 S R) (fun _ i _ => 16 - (intOf i).toNat)
      case atStart => exact ⟨0, by omega, rfl, rfl, HT.out⟩
      case round =>
        clear HT
        obtain ⟨k, hk, rfl, rfl, hT⟩ := hrel
        by_cases hlt : k < 16
        · have c0 : decide ((k : Int) < 16) = true := by simp; omega
          have cx := hT.two.cell k (by rw [HRl.out]; exact hlt)
          have cy := hT.one.cell k (by rw [HSl.out]; exact hlt)
          have HT := hide hT
          clear hT
          go_upto_region 22 with fail
          go_quiet (fail)
          rw [cast_add32]
          obtain ⟨X, hX⟩ : ∃ X, X = add32 (nth R k) (nth S k) := ⟨_, rfl⟩
          have hXl : X < 4294967296 := by rw [hX]; exact add32_lt _ _
          rw [← hX]
          have HX := hide hX
          obtain ⟨wa, hwa⟩ : ∃ wa, wa = wr.drewN nq := ⟨_, rfl⟩
          have HTa : Hid (Two w wa g4 g5 S R) := hide (by rw [hwa]; exact ⟨HT.out.one.drewN _, HT.out.two.drewN _, below_drewN HT.out.bel _, HT.out.ord, HT.out.siz⟩)
          rw [← hwa]
          clear hX hwa HT cx cy
          go_wp2_with fail
          go_loopw [13, 15, 93] (fun o x i wq => ∃ j : Nat, j ≤ 4 ∧ i = .int .i64 (j : Int) ∧ x = .int .u32 ((X / 256 ^ j : Nat) : Int) ∧ o = .string (ofl (outB R S k ++ (w4 X).take j)) ∧ Two w wq g4 g5 S R) (fun _ _ i _ => 4 - (intOf i).toNat)
          case atStart => exact ⟨0, by omega, rfl, by simp, by simp, HTa.out⟩
          case round =>
            clear HTa
            obtain ⟨wb, rfl⟩ : ∃ wb : World, wb = wr := ⟨_, rfl⟩
            obtain ⟨j, hj, rfl, rfl, rfl, hT⟩ := hrel
            by_cases hjl : j < 4
            · have c1 : decide ((j : Int) < 4) = true := by simp; omega
              have HT := hide hT
              clear hT
              obtain ⟨Y, hY⟩ : ∃ Y, Y = X / 256 ^ j := ⟨_, rfl⟩
              have hYl : Y < 4294967296 := by rw [hY]; exact Nat.lt_of_le_of_lt (Nat.div_le_self _ _) hXl
              obtain ⟨A, hA⟩ : ∃ A, A = ofl (outB R S k ++ (w4 X).take j) := ⟨_, rfl⟩
              have hAs : A.size ≤ 68 := by
                rw [hA]
                simp [ofl, ByteArray.size, outB_length, w4]
                omega
              rw [← hY, ← hA]
              have HY := hide hY
              have HA := hide hA
              clear hY hA
              have hcv := run_string_one (P := Tryd.prog) wb 111 9 5 (Y % 256) Tryd.underlying111 Tryd.underlying5 Tryd.underlying9
              have hBs : (ofl [UInt8.ofNat (Y % 256)]).size = 1 := rfl
              rw [Int.natCast_emod] at hcv
              rw [show ((256 : Nat) : Int) = 256 from rfl] at hcv
              go_wp2_with fail
              refine ⟨⟨j + 1, by omega, by go_num, ?_, ?_, HT.out.alloc _⟩, ?_⟩
              · rw [Nat.pow_succ, ← Nat.div_div_eq_div_mul, ← HY.out]
                simp
              · rw [HA.out, ofl_append, HY.out, List.append_assoc, ← w4_take X j hjl]
              · simp [intOf]; omega
            · obtain rfl : j = 4 := by omega
              rw [show ((4 : Nat) : Int) = 4 from rfl]
              have HT := hide hT
              obtain ⟨Z, hZ⟩ : ∃ Z, Z = X / 256 ^ 4 := ⟨_, rfl⟩
              rw [← hZ]
              have e4 : ofl (outB R S k ++ List.take 4 (w4 X)) = ofl (outB R S (k + 1)) := by rw [HX.out]; rfl
              rw [e4]
              clear hT hj hjl hZ e4
              go_wp2_with fail
              go_roundw
              case rel => exact ⟨k + 1, by omega, by go_num, rfl, HT.out⟩
              case measure => simp [intOf]; omega
        · obtain rfl : k = 16 := by omega
          rw [show ((16 : Nat) : Int) = 16 from rfl]
          go_wp2_with fail
          go_ret2
          refine ⟨?_, hT.bel⟩
          rw [HR.out, show (20 : Nat) = 2 * 10 from rfl, halves_rounds, HS.out]
          rfl
end Go.Proofs.YtmligbaalbbgiabDoor

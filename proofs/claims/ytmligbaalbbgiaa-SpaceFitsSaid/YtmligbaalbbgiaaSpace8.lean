/- The walk of salternkeep.SpaceFits: it returns true. No condition. -/
import Derived.Test.YtmligbaalbbgiaaProg
import Derived.Test.YtmligbaalbbgiaaBase
import Derived.Test.YtmligbaalbbgiaaSpaceS
import Derived.Test.YtmligbaalbbgiaaSpaceFitsS
import Derived.Test.YtmligbaalbbgiaaSpace1
import Derived.Test.YtmligbaalbbgiaaSpace2
import Derived.Test.YtmligbaalbbgiaaSpace3
import Derived.Test.YtmligbaalbbgiaaSpace4
import Derived.Test.YtmligbaalbbgiaaSpace5
import Derived.Test.YtmligbaalbbgiaaSpace6
import Derived.Test.YtmligbaalbbgiaaSpace7
import Derived.Test.YtmligbaalbbgiaaTable
import Derived.Deep.MidRow
namespace Go.Proofs.Ytmligbaalbbgiaa
open Go.RowKit

theorem openV_is' (o : Option Nat) : openV o = .tuple #[.int .i64 (zI o), .bool (okB o)] := by cases o <;> rfl
theorem vicV_is' (o : Option Nat) : vicV o = .tuple #[.int .i64 (zI o), .bool (okB o)] := by cases o <;> rfl
/-- A part of one number. -/
theorem Ints.one {w : World} {A : Option Addr} {zs : List Int} (h : Ints w A zs) (b : Nat) (hb : b < zs.length) : ∃ a, A = some a ∧ Ints w (some (a.add b)) [ith zs b] := by
  obtain ⟨a, rfl, ha, hc⟩ := h.at_ (by omega)
  refine ⟨a, rfl, ⟨fun _ => ⟨a.add b, rfl, ?_, fun i hi => ?_⟩, fun i => ?_⟩⟩
  · rw [Go.ChangeShapes.block_add]; exact ha
  · obtain rfl : i = 0 := by simp at hi; omega
    rw [show (a.add b).add 0 = a.add b from by (unfold Addr.add; split <;> simp_all), hc b hb]
    rfl
  · have := h.wf b
    by_cases hi : i = 0
    · subst hi; exact this
    · have e : ith [ith zs b] i = 0 := by
        unfold ith
        rw [List.getD_eq_getElem?_getD, List.getElem?_eq_none (by simp; omega)]
        rfl
      rw [e]; omega
theorem range_below' {w w' : World} {B : Nat} {cl : List Value} (h : w.rangeAt B 0 cl) (hB : B < w.heap.size) (hb : Below w.heap.size w w') : w'.rangeAt B 0 cl := by
  intro j v hv
  exact (hb.cell (p := ⟨B, 0 + j, none⟩) hB).trans (h j v hv)
theorem cell_below_lt {w w' : World} {a : Addr} {v : Value} (h : w.cell? a = some v) (ha : a.block < w.heap.size) (hb : Below w.heap.size w w') : w'.cell? a = some v := (hb.cell ha).trans h
theorem cell_below {w w' : World} {a : Addr} {v : Value} (h : w.cell? a = some v) (hb : Below w.heap.size w w') : w'.cell? a = some v := cell_below_lt h (World.block_lt_of_cell? w a h) hb
theorem ints_of_own_n {w : World} {base n c : Nat} {A : Option Addr} {l : List Nat} (h : w.ownsRow base 3 1 (.slice A n c) n (intsV l)) (hn : n = l.length) (hb : ∀ x ∈ l, x ≤ 1000) : Ints w A (l.map fun x : Nat => (x : Int)) ∧ n = (l.map fun x : Nat => (x : Int)).length :=
  ⟨ints_of_own h hb, by rw [List.length_map]; exact hn⟩
theorem isSorted_n (A : Option Addr) (ca n : Nat) (zs : List Int) (hn : n = zs.length) (hs : zs.length ≤ 1000 ∧ ∀ i, i + 1 < zs.length → ith zs i ≤ ith zs (i + 1)) (w : World) (hA : Ints w A zs) :
    Calls Try.prog 37 #[.slice A n ca] w fun e w' => e = .returned (.bool true) ∧ ∃ k, w' = w.drewN k := by
  subst hn
  exact isSorted_yes A ca zs hs.1 hs.2 w hA
theorem inAt_rises (zone : Nat → Int) (tag : Nat → ByteArray) (z : Int) (k : Nat) : ∀ (_ : k ≤ 1000), ((inAt zone tag z k).map fun x : Nat => (x : Int)).length ≤ 1000 ∧ ∀ i, i + 1 < ((inAt zone tag z k).map fun x : Nat => (x : Int)).length → ith ((inAt zone tag z k).map fun x : Nat => (x : Int)) i ≤ ith ((inAt zone tag z k).map fun x : Nat => (x : Int)) (i + 1) := by
  intro hk
  have hl := inAt_length zone tag z k
  refine ⟨by rw [List.length_map]; omega, fun i hi => ?_⟩
  rw [List.length_map] at hi
  have hp := inAt_sorted zone tag z k
  rw [List.pairwise_iff_getElem] at hp
  have h := hp i (i + 1) (by omega) hi (by omega)
  have h1 : i < (inAt zone tag z k).length := by omega
  simp [ith, List.getD, h1, hi]
  exact h
/-- What Open tells of the room. -/
structure OpenOk (zs : List Int) (but z : Int) (ok : Bool) : Prop where
  free : ok = decide (0 < freeBut zs but zs.length)
  at_ : ok = true → ∃ i : Nat, z = (i : Int) ∧ i < zs.length ∧ ith zs i < 16 ∧ z ≠ but
theorem openOk (zs : List Int) (but : Int) : OpenOk zs but (zI (openAt zs but zs.length)) (okB (openAt zs but zs.length)) := by
  have h := open_free zs but zs.length
  cases ho : openAt zs but zs.length with
  | none => rw [ho] at h; exact ⟨h, fun h => by cases h⟩
  | some i =>
    rw [ho] at h
    have := openAt_some ho
    exact ⟨h, fun _ => ⟨i, rfl, this.1, this.2.1, this.2.2⟩⟩
/-- What Victim tells of full zones. -/
structure VicOk (zs ls : List Int) (v : Int) (full : Bool) : Prop where
  no : full = false → ∀ i, i < zs.length → i < ls.length → ith zs i < 16
  yes : full = true → ∃ b : Nat, v = (b : Int) ∧ b < zs.length ∧ b < ls.length ∧ 16 ≤ ith zs b ∧ ∀ i, i < zs.length → i < ls.length → 16 ≤ ith zs i → ith ls b ≤ ith ls i ∧ (i < b → ith ls b < ith ls i)
theorem vicOk (zs ls : List Int) : VicOk zs ls (zI (vicAt zs ls zs.length)) (okB (vicAt zs ls zs.length)) := by
  have h := vicAt_best zs ls zs.length
  cases ho : vicAt zs ls zs.length with
  | none =>
    rw [ho] at h
    refine ⟨fun _ i hi hl => ?_, fun h => by cases h⟩
    have := h i (by omega) hi
    by_cases h16 : ith zs i < 16
    · exact h16
    · exact absurd ⟨by omega, hl⟩ this
  | some b =>
    rw [ho] at h
    have h : Best zs ls 0 zs.length b := h
    exact ⟨fun h => (by cases h), fun _ => ⟨b, rfl, h.lt, h.cand.2, h.cand.1, fun i hi hl h16 => ⟨h.least i (by omega) hi ⟨h16, hl⟩, fun hb => h.first i (by omega) hb ⟨h16, hl⟩⟩⟩⟩

set_option maxRecDepth 100000 in
set_option maxHeartbeats 2000000 in
theorem fits_wide (A B : Option Addr) (n m ca cb : Nat) (but : Int) (cs : Array Value) (h : 20 < n ∨ 20 < m) (w : World) :
    Calls Try.prog 7 #[.slice A n ca, .slice B m cb, .int .i64 but, .agg cs] w fun e w' => e = .returned (.bool true) ∧ Below w.heap.size w w' := by
  have HB0 : Hid (Below w.heap.size w (w.alloc (.cells cs 57))) := hide ((Below.refl _ _).alloc (Nat.le_refl _) _)
  by_cases h1 : 20 < n
  · have c1 : decide (20 < n) = true := by simpa using h1
    have c1' : decide ((20 : Int) < (n : Int)) = true := by simp; omega
    clear h
    go_enter Try.func7, Try.ntmps7
    go_wp2_with fail
    go_ret
    exact ⟨rfl, HB0.out⟩
  · have c1 : decide (20 < n) = false := by simpa using h1
    have c2 : decide (20 < m) = true := by simp; omega
    have c1' : decide ((20 : Int) < (n : Int)) = false := by simp; omega
    have c2' : decide ((20 : Int) < (m : Int)) = true := by simp; omega
    clear h
    go_enter Try.func7, Try.ntmps7
    go_wp2_with fail
    go_ret
    exact ⟨rfl, HB0.out⟩

set_option maxRecDepth 100000 in
set_option maxHeartbeats 8000000 in
theorem fits_good (A B : Option Addr) (ca cb : Nat) (zs ls : List Int) (but : Int) (cs : Array Value) (zone off : Nat → Int) (tag : Nat → ByteArray) (h1 : zs.length ≤ 20) (h2 : ls.length ≤ 20) (hcap : zs.length ≤ ca) (hT : Tab cs zone off tag) (w : World)
    (hA : Ints w A zs) (hB : Ints w B ls) :
    Calls Try.prog 7 #[.slice A zs.length ca, .slice B ls.length cb, .int .i64 but, .agg cs] w fun e w' => e = .returned (.bool true) ∧ Below w.heap.size w w' := by
  have HT := hide hT
  have HBW : Hid (Below w.heap.size w (w.alloc (.cells cs 57))) := hide ((Below.refl _ _).alloc (Nat.le_refl _) _)
  have HA1 : Hid (Ints (w.alloc (.cells cs 57)) A zs) := hide (hA.below ((Below.refl _ _).alloc (Nat.le_refl _) _))
  have HB1 : Hid (Ints (w.alloc (.cells cs 57)) B ls) := hide (hB.below ((Below.refl _ _).alloc (Nat.le_refl _) _))
  have HBX : Hid ((w.alloc (.cells cs 57)).heap[w.heap.size]? = some (.cells cs 57 (0, 0))) := hide (heap_alloc_new w _)
  have HI73 : Hid ((Try.prog.info? 57).map (·.size) = some cs.size) := hide (by rw [hT.size]; kernel_rfl)
  have H1 : Hid (zs.length ≤ 20) := hide h1
  have H2 : Hid (ls.length ≤ 20) := hide h2
  have c1 : decide (20 < zs.length) = false := by simp; omega
  have c2 : decide (20 < ls.length) = false := by simp; omega
  have c1' : decide ((20 : Int) < (zs.length : Int)) = false := by simp; omega
  have c2' : decide ((20 : Int) < (ls.length : Int)) = false := by simp; omega
  clear hT hA hB
  go_enter Try.func7, Try.ntmps7
  go_upto_region 1 with fail
  obtain ⟨Bk, hBk⟩ : ∃ Bk, Bk = w.heap.size := ⟨_, rfl⟩
  obtain ⟨W1, hW1⟩ : ∃ W1, W1 = w.alloc (.cells cs 57) := ⟨_, rfl⟩
  have HS1 : Hid (Bk < W1.heap.size) := hide (by rw [hW1, hBk]; simp)
  rw [← hBk, ← hW1] at HBX
  rw [← hW1] at HBW HA1 HB1
  rw [← hBk, ← hW1]
  clear hBk hW1
  go_upto_region 5 with (go_at_call 36; go_loud (refine (spaced_yes _).mono ?_; rintro e w2 ⟨rfl, hb2⟩; have HB2 := hide (below_step HBW.out hb2); have HA3 := hide (HA1.out.below hb2); have HB3 := hide (HB1.out.below hb2); have HS3 := hide (Nat.lt_of_lt_of_le HS1.out hb2.size); have HBX3 := hide ((hb2.block Bk HS1.out).trans HBX.out); clear hb2))
  clear HBX HA1 HB1 HS1 HBW
  have HOK := hide (openOk zs but)
  go_upto_region 6 with (go_at_call 26; go_loud (refine (open_any A ca zs but H1.out _ HA3.out).mono ?_; rintro e w3 ⟨rfl, rfl⟩; rw [openV_is']))
  obtain ⟨z, hz⟩ : ∃ z, z = zI (openAt zs but zs.length) := ⟨_, rfl⟩
  obtain ⟨ok, hok⟩ : ∃ ok, ok = okB (openAt zs but zs.length) := ⟨_, rfl⟩
  rw [← hz, ← hok] at HOK ⊢
  clear hz hok
  have hfb := freeAt_bounds zs zs.length
  go_upto_region 7 with (go_at_call 27; go_loud (refine (free_any A ca zs H1.out _ HA3.out).mono ?_; rintro e w4 ⟨rfl, rfl⟩))
  obtain ⟨F0, hF0⟩ : ∃ F0, F0 = freeAt zs zs.length := ⟨_, rfl⟩
  rw [← hF0] at hfb ⊢
  have HF0 := hide hF0
  clear hF0
  go_cut [42] from 35 to 42 (fun c wx => c = .bool (decide (0 ≤ but ∧ but < (zs.length : Int))) ∧ wx = w4)
  case first =>
    by_cases hb0 : 0 ≤ but
    · have d0 : decide ((0 : Int) ≤ but) = true := by simpa using hb0
      by_cases hb1 : but < (zs.length : Int)
      · have d1 : decide (but < (zs.length : Int)) = true := by simpa using hb1
        have d2 : decide (0 ≤ but ∧ but < (zs.length : Int)) = true := by simp; omega
        go_wp2_with fail
        go_meet
        exact ⟨by rw [d2], rfl⟩
      · have d1 : decide (but < (zs.length : Int)) = false := by simpa using hb1
        have d2 : decide (0 ≤ but ∧ but < (zs.length : Int)) = false := by simp; omega
        go_wp2_with fail
        go_meet
        exact ⟨by rw [d2], rfl⟩
    · have d0 : decide ((0 : Int) ≤ but) = false := by simpa using hb0
      have d2 : decide (0 ≤ but ∧ but < (zs.length : Int)) = false := by simp; omega
      go_wp2_with fail
      go_meet
      exact ⟨by rw [d2], rfl⟩
  case rest =>
  obtain ⟨rfl, rfl⟩ := hcut
  go_upto_if 42 with fail
  go_cut [11] from 42 to 50 (fun f wx => f = .int .i64 (freeBut zs but zs.length) ∧ wx = wc)
  case first =>
    by_cases hb : 0 ≤ but ∧ but < (zs.length : Int)
    · have d2 : decide (0 ≤ but ∧ but < (zs.length : Int)) = true := by simpa using hb
      obtain ⟨b, rfl⟩ := Int.eq_ofNat_of_zero_le hb.1
      have hbl : b < zs.length := by omega
      obtain ⟨a, rfl, HO⟩ := HA3.out.one b hbl
      have HO := hide HO
      have hF1 : Hid (freeBut zs (b : Int) zs.length = F0 - freeAt [ith zs b] [ith zs b].length) := hide (by
        rw [freeBut_in hbl, HF0.out]
        show _ = _ - (0 + max (16 - max (ith zs b) 0) 0)
        omega)
      have hbd : 0 ≤ freeAt [ith zs b] 1 ∧ freeAt [ith zs b] 1 ≤ 16 := freeAt_bounds [ith zs b] 1
      obtain ⟨x, hx⟩ : ∃ x, x = ith zs b := ⟨_, rfl⟩
      rw [← hx] at HO hF1 hbd
      clear hx
      go_wp2_with (go_at_call 27; go_loud (refine (free_any (some (a.add b)) _ [x] (by simp) _ HO.out).mono ?_; rintro e w5 ⟨rfl, rfl⟩))
      go_meet
      refine ⟨?_, rfl⟩
      rw [hF1.out]
      rfl
    · have d2 : decide (0 ≤ but ∧ but < (zs.length : Int)) = false := by simpa using hb
      have hF1 : Hid (freeBut zs but zs.length = F0) := hide (by rw [freeBut_out hb, HF0.out])
      go_wp2_with fail
      go_meet
      exact ⟨by rw [hF1.out], rfl⟩
  case rest =>
  obtain ⟨rfl, rfl⟩ := hcut
  obtain ⟨F, hF⟩ : ∃ F, F = freeBut zs but zs.length := ⟨_, rfl⟩
  have HOF : Hid (ok = decide (0 < F)) := hide (by rw [hF]; exact HOK.out.free)
  have HOA : Hid (ok = true → ∃ i : Nat, z = (i : Int) ∧ i < zs.length ∧ ith zs i < 16 ∧ z ≠ but) := hide HOK.out.at_
  rw [← hF]
  clear hF HOK HF0
  go_upto_region 9 with fail
  go_cut [79] from 51 to 79 (fun c wx => c = .bool false ∧ wx = wc)
  case first =>
    cases ok with
    | false =>
      have d0 : decide (0 < F) = false := HOF.out.symm
      clear HOF HOA
      go_wp2_with fail
      go_meet
      exact ⟨rfl, rfl⟩
    | true =>
      have d0 : decide (0 < F) = true := HOF.out.symm
      obtain ⟨i, rfl, hi, hi16, hib⟩ := HOA.out rfl
      have d1 : decide ((i : Int) < 0) = false := by simp
      have d2 : decide (zs.length ≤ i) = false := by simp; omega
      have d3 : ((i : Int) == but) = false := by simpa using hib
      obtain ⟨a, rfl, ha, hcell⟩ := HA3.out.at_ (by omega)
      have cx := hcell i hi
      have d4 : decide (16 ≤ ith zs i) = false := by simp; omega
      obtain ⟨x, hx⟩ : ∃ x, x = ith zs i := ⟨_, rfl⟩
      rw [← hx] at cx d4
      clear hcell hx hi16 hib ha HOF HOA
      go_wp2_with fail
      go_meet
      exact ⟨rfl, rfl⟩
  case rest =>
  obtain ⟨rfl, rfl⟩ := hcut
  clear HOF HOA
  have HVK := hide (vicOk zs ls)
  go_upto_region 12 with (go_at_call 30; go_loud (refine (victim_any A B ca cb zs ls H1.out H2.out _ HA3.out HB3.out).mono ?_; rintro e w5 ⟨rfl, q5, rfl⟩; rw [vicV_is']))
  obtain ⟨v, hv⟩ : ∃ v, v = zI (vicAt zs ls zs.length) := ⟨_, rfl⟩
  obtain ⟨full, hfull⟩ : ∃ full, full = okB (vicAt zs ls zs.length) := ⟨_, rfl⟩
  rw [← hv, ← hfull] at HVK ⊢
  clear hv hfull
  obtain ⟨wv, hwv⟩ : ∃ wv, wv = wc.drewN q5 := ⟨_, rfl⟩
  have HB5 : Hid (Below w.heap.size w wv) := hide (by rw [hwv]; exact ⟨HB2.out.os, HB2.out.tape, HB2.out.output, HB2.out.size, HB2.out.block⟩)
  have HA5 : Hid (Ints wv A zs) := hide (by rw [hwv]; exact HA3.out.drewN q5)
  have HB5' : Hid (Ints wv B ls) := hide (by rw [hwv]; exact HB3.out.drewN q5)
  have HS5 : Hid (Bk < wv.heap.size) := hide (by rw [hwv]; exact HS3.out)
  have HBX5 : Hid (wv.heap[Bk]? = some (Obj.cells cs 57 (0, 0))) := hide (by rw [hwv]; exact HBX3.out)
  rw [← hwv]
  clear hwv HB2 HA3 HB3 HS3 HBX3
  go_wp2_with fail
  go_loopw [14] (fun i wr => ∃ I : Nat, i = .int .i64 (I : Int) ∧ I ≤ zs.length ∧ ∃ q, wr = wv.drewN q) (fun i _ => zs.length - (intOf i).toNat)
  case atStart => exact ⟨0, rfl, by omega, 0, rfl⟩
  case round =>
    obtain ⟨wa, rfl⟩ : ∃ wa : World, wa = wr := ⟨_, rfl⟩
    obtain ⟨I, rfl, hI, q, hwa⟩ := hrel
    have HWA := hide hwa
    have HA6 : Hid (Ints wa A zs) := hide (by rw [hwa]; exact HA5.out.drewN q)
    have HB6 : Hid (Ints wa B ls) := hide (by rw [hwa]; exact HB5'.out.drewN q)
    clear hwa
    go_upto_region 13 with fail
    go_cut [95] from 86 to 95 (fun c wx => c = .bool (decide (I < zs.length ∧ I < ls.length)) ∧ wx = wa)
    case first =>
      by_cases hb0 : I < zs.length
      · have d0 : decide (I < zs.length) = true := by simpa using hb0
        by_cases hb1 : I < ls.length
        · have d1 : decide (I < ls.length) = true := by simpa using hb1
          have d2 : decide (I < zs.length ∧ I < ls.length) = true := by simp; omega
          go_wp2_with fail
          go_meet
          exact ⟨by rw [d2], rfl⟩
        · have d1 : decide (I < ls.length) = false := by simpa using hb1
          have d2 : decide (I < zs.length ∧ I < ls.length) = false := by simp; omega
          go_wp2_with fail
          go_meet
          exact ⟨by rw [d2], rfl⟩
      · have d0 : decide (I < zs.length) = false := by simpa using hb0
        have d2 : decide (I < zs.length ∧ I < ls.length) = false := by simp; omega
        go_wp2_with fail
        go_meet
        exact ⟨by rw [d2], rfl⟩
    case rest =>
    obtain ⟨rfl, rfl⟩ := hcut
    by_cases hb : I < zs.length ∧ I < ls.length
    · have d2 : decide (I < zs.length ∧ I < ls.length) = true := by simpa using hb
      obtain ⟨hb0, hb1⟩ := hb
      rw [d2]
      go_upto_region 15 with fail
      obtain ⟨a, rfl, ha, hcell⟩ := HA6.out.at_ (by omega)
      obtain ⟨b, rfl, hb, hcellb⟩ := HB6.out.at_ (by omega)
      have cx := hcell I hb0
      by_cases hx16 : ith zs I < 16
      · have d3 : decide (16 ≤ ith zs I) = false := by simp; omega
        obtain ⟨x, hx⟩ : ∃ x, x = ith zs I := ⟨_, rfl⟩
        rw [← hx] at cx d3
        clear hx hx16 hcell hcellb ha hb d2
        go_quiet (fail)
        go_wp2
        exact ⟨⟨I + 1, by go_num, by omega, q + nq, by rw [HWA.out, drewN_drewN]⟩, by simp [intOf]; omega⟩
      · have d3 : decide (16 ≤ ith zs I) = true := by simp; omega
        cases full with
        | false => exact absurd (HVK.out.no rfl I hb0 hb1) hx16
        | true =>
          obtain ⟨bv, rfl, hbz, hbl, _, hbest⟩ := HVK.out.yes rfl
          obtain ⟨hle, hfirst⟩ := hbest I hb0 hb1 (by omega)
          have cy := hcellb I hb1
          have cv := hcellb bv hbl
          obtain ⟨x, hx⟩ : ∃ x, x = ith zs I := ⟨_, rfl⟩
          obtain ⟨y, hy⟩ : ∃ y, y = ith ls I := ⟨_, rfl⟩
          obtain ⟨u, hu⟩ : ∃ u, u = ith ls bv := ⟨_, rfl⟩
          rw [← hx] at cx d3
          rw [← hy] at cy hle hfirst
          rw [← hu] at cv hle hfirst
          have d4 : decide (y < u) = false := by simp; omega
          have HF := hide hfirst
          clear hx hx16 hcell hcellb ha hb d2 hfirst hy hu hbest
          by_cases hyu : y = u
          · have d5 : (y == u) = true := by simpa using hyu
            have d6 : decide (I < bv) = false := by
              simp
              rcases Nat.lt_or_ge I bv with h | h
              · have := HF.out h; omega
              · exact h
            have HYU := hide hyu
            clear hyu hle
            go_quiet (fail)
            go_wp2
            exact ⟨⟨I + 1, by go_num, by omega, q + nq, by rw [HWA.out, drewN_drewN]⟩, by simp [intOf]; omega⟩
          · have d5 : (y == u) = false := by simpa using hyu
            clear hyu hle
            go_quiet (fail)
            go_wp2
            exact ⟨⟨I + 1, by go_num, by omega, q + nq, by rw [HWA.out, drewN_drewN]⟩, by simp [intOf]; omega⟩
    · have d2 : decide (I < zs.length ∧ I < ls.length) = false := by simpa using hb
      rw [d2]
      clear d2 hb
      go_upto_region 17 with fail
      have HBS7 : Hid (Below w.heap.size w wc) := hide (by rw [HWA.out]; exact ⟨HB5.out.os, HB5.out.tape, HB5.out.output, HB5.out.size, HB5.out.block⟩)
      have HS7 : Hid (Bk < wc.heap.size) := hide (by rw [HWA.out]; exact HS5.out)
      have HBX7 : Hid (wc.heap[Bk]? = some (Obj.cells cs 57 (0, 0))) := hide (by rw [HWA.out]; exact HBX5.out)
      clear HWA HB5 HA5 HB5' HS5 HBX5
      obtain ⟨w7, hw7⟩ : ∃ w7, w7 = wc := ⟨_, rfl⟩
      rw [← hw7] at HBS7 HS7 HBX7 HA6 ⊢
      clear hw7
      go_cut [147] from 134 to 147 (fun c wx => c = .bool false ∧ wx = w7)
      case first =>
        cases full with
        | false =>
          clear HVK
          go_wp2_with fail
          go_meet
          exact ⟨rfl, rfl⟩
        | true =>
          obtain ⟨bv, rfl, hbz, hbl, h16, _⟩ := HVK.out.yes rfl
          have d1 : decide (zs.length ≤ bv) = false := by simp; omega
          obtain ⟨a, rfl, ha, hcell⟩ := HA6.out.at_ (by omega)
          have cx := hcell bv hbz
          have d4 : decide (ith zs bv < 16) = false := by simp; omega
          obtain ⟨x, hx⟩ : ∃ x, x = ith zs bv := ⟨_, rfl⟩
          rw [← hx] at cx d4
          clear hcell hx h16 ha HVK
          go_wp2_with fail
          go_meet
          exact ⟨rfl, rfl⟩
      case rest =>
      obtain ⟨rfl, rfl⟩ := hcut
      clear HVK HA6
      go_upto_region 20 with (first
        | (refine wpList_load_row rfl 57 (.tmp 7) rfl Bk rfl 57 cs (0, 0) _ HBX7.out Try.underlying57 rfl HI73.out ?_)
        | (go_at_call 32; go_loud (refine (live_any cs zone off tag HT.out _).mono ?_; rintro e w8 ⟨v8, rfl, hw8, hb8⟩; obtain ⟨a8, c8, rfl⟩ := own_shape hw8; have HO8 := hide hw8; have HS8 := hide (Nat.lt_of_lt_of_le HS7.out hb8.size); have HB8 := hide (below_step HBS7.out hb8); have HBX8 := hide ((hb8.block Bk HS7.out).trans HBX7.out); clear hb8 hw8)))
      have HI8 := hide (ints_of_own HO8.out (fun x hx => Nat.le_trans (liveAt_le _ _ _ _ x hx) (by omega)))
      obtain ⟨a, rfl, ha, hcell⟩ := HI8.out.at_ (by simp [liveAt_length])
      have HAL : Hid (a.block < w8.heap.size) := hide ha
      have HCL : Hid (∀ I : Nat, I < 8 → w8.cell? (a.add I) = some (.int .i64 (((inAt zone tag (I : Int) 24).length : Nat) : Int))) := hide (fun I hI => by
        rw [hcell I (by simp [liveAt_length]; omega)]
        simp [ith, List.getD, liveAt_get zone tag 24 8 I hI])
      clear ha hcell HI8 HO8
      have HWB : Hid (Below w8.heap.size w8 w8) := hide (Below.refl _ _)
      obtain ⟨cl, hcl⟩ : ∃ cl, cl = cs.toList := ⟨_, rfl⟩
      have hcs : cl.toArray = cs := by rw [hcl]
      have HTL : Hid (Tab cl.toArray zone off tag) := hide (by rw [hcs]; exact HT.out)
      have HRG : Hid (w8.rangeAt Bk 0 cl) := hide (by
        intro j v hv
        rw [cell_of_row w8 Bk (0 + j) cs 57 (0, 0) HBX8.out, Nat.zero_add]
        rw [hcl] at hv
        simpa using hv)
      have hi : (Try.prog.info? 57).map (·.size) = some cl.length := by rw [HI73.out, hcl]; simp
      have hu := Try.underlying57
      have HHI := hide hi
      have HHU := hide hu
      clear hcs hcl HBX8 HI73 hi hu HT
      go_upto_region 20 with fail
      go_wp2_with fail
      go_loopw [16] (fun i wr => ∃ I : Nat, i = .int .i64 (I : Int) ∧ I ≤ 8 ∧ Below w8.heap.size w8 wr) (fun i _ => 8 - (intOf i).toNat)
      case atStart => exact ⟨0, rfl, by omega, HWB.out⟩
      case round =>
        clear HWB
        obtain ⟨wa, rfl⟩ : ∃ wa : World, wa = wr := ⟨_, rfl⟩
        obtain ⟨I, rfl, hI, hbel⟩ := hrel
        have HBE := hide hbel
        clear hbel
        by_cases hlt : I < 8
        · have d0 : decide ((I : Int) < 8) = true := by simp; omega
          have d1 : (I : Int) < 8 := by omega
          have HRx : Hid (wa.rangeAt Bk 0 cl) := hide (range_below' HRG.out HS8.out HBE.out)
          have HSx : Hid (Bk < wa.heap.size) := hide (Nat.lt_of_lt_of_le HS8.out HBE.out.size)
          have HBx : Hid (Below w8.heap.size w8 wa) := HBE
          obtain ⟨k, hk⟩ : ∃ k, k = (inAt zone tag (I : Int) 24).length := ⟨_, rfl⟩
          have HCx : Hid (wa.cell? (a.add I) = some (.int .i64 (k : Int))) := hide (by
            have h := HCL.out I hlt
            rw [← hk] at h
            exact cell_below_lt h (by rw [Go.ChangeShapes.block_add]; exact HAL.out) HBE.out)
          have HSO := hide (inAt_rises zone tag (I : Int) 24 (by omega))
          have hk24 : k ≤ 24 := by rw [hk]; exact inAt_length _ _ _ _
          have HK := hide hk
          clear hk
          have d5 : ((k : Int) != (k : Int)) = false := by simp
          have hi := HHI.out
          have hu := HHU.out
          go_upto_region 23 with fail
          refine wp_region_noPanic ?_
          refine wp_region_held_drew (S := fun w' => w'.rangeAt Bk 0 cl ∧ w'.cell? (a.add I) = some (.int .i64 (k : Int))) (by kernel_rfl) ⟨HRx.out, HCx.out⟩ (fun hHeld => ?_)
          refine wpAnyH_take (i := 0) (oi := _) (v := ?_) rfl (by kernel_rfl) (by kernel_rfl) (by kernel_rfl) (fun _ _ _ h => h) (Or.inl ⟨by kernel_rfl, ?_⟩) (by assumption) ?_
          rotate_left
          · intro w' hSw
            go_simp
            try with_reducible rfl
          try simp only [Act.put, List.setIfInBounds_toArray, List.set_cons_zero, List.set_cons_succ]
          refine wpAnyH_take (i := 1) (oi := _) (v := ?_) rfl (by kernel_rfl) (by kernel_rfl) (by kernel_rfl) (fun _ _ _ h => h) (Or.inl ⟨by kernel_rfl, ?_⟩) (by assumption) ?_
          rotate_left
          · intro w' hSw
            go_simp
            try with_reducible rfl
          try simp only [Act.put, List.setIfInBounds_toArray, List.set_cons_zero, List.set_cons_succ]
          refine wpAnyH_take (i := 2) (oi := _) (v := ?_) rfl (by kernel_rfl) (by kernel_rfl) (by kernel_rfl) (fun _ _ _ h => h) (Or.inl ⟨by kernel_rfl, ?_⟩) (by assumption) ?_
          rotate_left
          · intro w' hSw
            go_simp
            try with_reducible rfl
          try simp only [Act.put, List.setIfInBounds_toArray, List.set_cons_zero, List.set_cons_succ]
          refine wpAnyH_take (i := 3) (oi := _) (v := ?_) rfl (by kernel_rfl) (by kernel_rfl) (by kernel_rfl) (fun _ _ _ h => h) (Or.inl ⟨by kernel_rfl, ?_⟩) (by assumption) ?_
          rotate_left
          · intro w' hSw
            go_simp
            try with_reducible rfl
          try simp only [Act.put, List.setIfInBounds_toArray, List.set_cons_zero, List.set_cons_succ]
          refine wpAnyH_take (i := 4) (oi := _) (v := .agg cl.toArray) rfl (by kernel_rfl) (by kernel_rfl) (by kernel_rfl) (fun _ _ _ h => h) ?_ (by assumption) ?_
          · simp only [List.getElem_toArray, List.getElem_cons_succ, List.getElem_cons_zero]
            refine yieldsIf_load_mid ?_ 57 (.tmp 7) rfl Bk 0 ?_ cl _ ?_ hu ?_ hi
            · kernel_rfl
            · kernel_rfl
            · exact fun w' h => h.1
            · rfl
          try simp only [Act.put, List.setIfInBounds_toArray, List.set_cons_zero, List.set_cons_succ]
          refine wpAnyH_take (i := 5) (oi := _) (v := ?_) rfl (by kernel_rfl) (by kernel_rfl) (by kernel_rfl) (fun _ _ _ h => h) (Or.inl ⟨by kernel_rfl, ?_⟩) (by assumption) ?_
          rotate_left
          · intro w' hSw
            go_simp
            try with_reducible rfl
          try simp only [Act.put, List.setIfInBounds_toArray, List.set_cons_zero, List.set_cons_succ]
          refine wpAnyH_take (i := 8) (oi := _) (v := ?_) rfl (by kernel_rfl) (by kernel_rfl) (by kernel_rfl) (fun _ _ _ h => h) (Or.inl ⟨by kernel_rfl, ?_⟩) (by assumption) ?_
          rotate_left
          · intro w' hSw
            go_simp
            try with_reducible rfl
          try simp only [Act.put, List.setIfInBounds_toArray, List.set_cons_zero, List.set_cons_succ]
          refine wpAnyH_take (i := 9) (oi := _) (v := ?_) rfl (by kernel_rfl) (by kernel_rfl) (by kernel_rfl) (fun _ _ _ h => h) (Or.inl ⟨by kernel_rfl, ?_⟩) (by assumption) ?_
          rotate_left
          · intro w' hSw
            go_simp
            try with_reducible rfl
          try simp only [Act.put, List.setIfInBounds_toArray, List.set_cons_zero, List.set_cons_succ]
          refine wpAnyH_take (i := 10) (oi := _) (v := ?_) rfl (by kernel_rfl) (by kernel_rfl) (by kernel_rfl) (fun _ _ _ h => h) (Or.inl ⟨by kernel_rfl, ?_⟩) (by assumption) ?_
          rotate_left
          · intro w' hSw
            go_simp
            try with_reducible rfl
          try simp only [Act.put, List.setIfInBounds_toArray, List.set_cons_zero, List.set_cons_succ]
          refine wpAnyH_take (i := 11) (oi := _) (v := ?_) rfl (by kernel_rfl) (by kernel_rfl) (by kernel_rfl) (fun _ _ _ h => h) (Or.inl ⟨by kernel_rfl, ?_⟩) (by assumption) ?_
          rotate_left
          · intro w' hSw
            obtain ⟨_, hSc⟩ := hSw
            go_simp
            try with_reducible rfl
          try simp only [Act.put, List.setIfInBounds_toArray, List.set_cons_zero, List.set_cons_succ]
          refine wpAnyH_ready (rs := [6]) (by kernel_rfl) (by simp) ?_
          refine AllReadyH.cons (o := _) rfl (fun K hK => ?_) AllReadyH.nil
          go_simp
          (go_at_call 34; go_loud (refine (in_any cl.toArray zone off tag (I : Int) HTL.out _).mono ?_; rintro e w9 ⟨v9, rfl, hw9, hb9⟩; rw [← HK.out] at hw9; obtain ⟨a9, c9, rfl⟩ := own_shape hw9; have HI9 := hide (ints_of_own_n hw9 HK.out (fun x hx => by have := inAt_lt _ _ _ _ x hx; omega)); have HCx := hide (cell_below HCx.out ⟨hb9.os, hb9.tape, hb9.output, hb9.size, hb9.block⟩); have HRx := hide (range_below' HRx.out HSx.out ⟨hb9.os, hb9.tape, hb9.output, hb9.size, hb9.block⟩); have HSx := hide (Nat.lt_of_lt_of_le HSx.out hb9.size); have HBx := hide (below_step HBx.out ⟨hb9.os, hb9.tape, hb9.output, hb9.size, hb9.block⟩); clear hb9 hw9))
          go_wp2_with fail
          refine hK.out _ _ ⟨HRx.out, HCx.out⟩ (fun hHeld => ?_)
          clear hK K
          try simp only [Act.put, List.setIfInBounds_toArray, List.set_cons_zero, List.set_cons_succ]
          refine wpAnyH_take (i := 7) (oi := _) (v := ?_) rfl (by kernel_rfl) (by kernel_rfl) (by kernel_rfl) (fun _ _ _ h => h) (Or.inl ⟨by kernel_rfl, ?_⟩) (by assumption) ?_
          rotate_left
          · intro w' hSw
            go_simp
            try with_reducible rfl
          try simp only [Act.put, List.setIfInBounds_toArray, List.set_cons_zero, List.set_cons_succ]
          refine wpAnyH_take (i := 12) (oi := _) (v := ?_) rfl (by kernel_rfl) (by kernel_rfl) (by kernel_rfl) (fun _ _ _ h => h) (Or.inl ⟨by kernel_rfl, ?_⟩) (by assumption) ?_
          rotate_left
          · intro w' hSw
            go_simp
            try with_reducible rfl
          try simp only [Act.put, List.setIfInBounds_toArray, List.set_cons_zero, List.set_cons_succ]
          refine wpAnyH_take (i := 13) (oi := _) (v := ?_) rfl (by kernel_rfl) (by kernel_rfl) (by kernel_rfl) (fun _ _ _ h => h) (Or.inl ⟨by kernel_rfl, ?_⟩) (by assumption) ?_
          rotate_left
          · intro w' hSw
            go_simp
            try with_reducible rfl
          try simp only [Act.put, List.setIfInBounds_toArray, List.set_cons_zero, List.set_cons_succ]
          refine wpAnyH_take (i := 14) (oi := _) (v := ?_) rfl (by kernel_rfl) (by kernel_rfl) (by kernel_rfl) (fun _ _ _ h => h) (Or.inl ⟨by kernel_rfl, ?_⟩) (by assumption) ?_
          rotate_left
          · intro w' hSw
            go_simp
            try with_reducible rfl
          try simp only [Act.put, List.setIfInBounds_toArray, List.set_cons_zero, List.set_cons_succ]
          refine wpAnyH_take (i := 15) (oi := _) (v := .agg cl.toArray) rfl (by kernel_rfl) (by kernel_rfl) (by kernel_rfl) (fun _ _ _ h => h) ?_ (by assumption) ?_
          · simp only [List.getElem_toArray, List.getElem_cons_succ, List.getElem_cons_zero]
            refine yieldsIf_load_mid ?_ 57 (.tmp 7) rfl Bk 0 ?_ cl _ ?_ hu ?_ hi
            · kernel_rfl
            · kernel_rfl
            · exact fun w' h => h.1
            · rfl
          try simp only [Act.put, List.setIfInBounds_toArray, List.set_cons_zero, List.set_cons_succ]
          refine wpAnyH_take (i := 16) (oi := _) (v := ?_) rfl (by kernel_rfl) (by kernel_rfl) (by kernel_rfl) (fun _ _ _ h => h) (Or.inl ⟨by kernel_rfl, ?_⟩) (by assumption) ?_
          rotate_left
          · intro w' hSw
            go_simp
            try with_reducible rfl
          try simp only [Act.put, List.setIfInBounds_toArray, List.set_cons_zero, List.set_cons_succ]
          refine wpAnyH_ready (rs := [17]) (by kernel_rfl) (by simp) ?_
          refine AllReadyH.cons (o := _) rfl (fun K hK => ?_) AllReadyH.nil
          go_simp
          (go_at_call 34; go_loud (refine (in_any cl.toArray zone off tag (I : Int) HTL.out _).mono ?_; rintro e w10 ⟨v10, rfl, hw10, hb10⟩; rw [← HK.out] at hw10; obtain ⟨a10, c10, rfl⟩ := own_shape hw10; have HI10 := hide (ints_of_own_n hw10 HK.out (fun x hx => by have := inAt_lt _ _ _ _ x hx; omega)); have HCx := hide (cell_below HCx.out ⟨hb10.os, hb10.tape, hb10.output, hb10.size, hb10.block⟩); have HRx := hide (range_below' HRx.out HSx.out ⟨hb10.os, hb10.tape, hb10.output, hb10.size, hb10.block⟩); have HSx := hide (Nat.lt_of_lt_of_le HSx.out hb10.size); have HBx := hide (below_step HBx.out ⟨hb10.os, hb10.tape, hb10.output, hb10.size, hb10.block⟩); clear hb10 hw10))
          go_wp2_with fail
          refine hK.out _ _ ⟨HRx.out, HCx.out⟩ (fun hHeld => ?_)
          clear hK K
          try simp only [Act.put, List.setIfInBounds_toArray, List.set_cons_zero, List.set_cons_succ]
          refine wpAnyH_ready (rs := [18]) (by kernel_rfl) (by simp) ?_
          refine AllReadyH.cons (o := _) rfl (fun K hK => ?_) AllReadyH.nil
          go_simp
          (go_at_call 37; go_loud (refine (isSorted_n _ _ _ _ HI10.out.2 HSO.out _ HI10.out.1).mono ?_; rintro e w11 ⟨rfl, k11, rfl⟩))
          go_wp2_with fail
          refine hK.out _ _ ⟨HRx.out, HCx.out⟩ (fun hHeld => ?_)
          clear hK K
          try simp only [Act.put, List.setIfInBounds_toArray, List.set_cons_zero, List.set_cons_succ]
          refine wpAnyH_take (i := 19) (oi := _) (v := ?_) rfl (by kernel_rfl) (by kernel_rfl) (by kernel_rfl) (fun _ _ _ h => h) (Or.inl ⟨by kernel_rfl, ?_⟩) (by assumption) ?_
          rotate_left
          · intro w' hSw
            go_simp
            try with_reducible rfl
          try simp only [Act.put, List.setIfInBounds_toArray, List.set_cons_zero, List.set_cons_succ]
          refine wpAnyH_take (i := 20) (oi := _) (v := ?_) rfl (by kernel_rfl) (by kernel_rfl) (by kernel_rfl) (fun _ _ _ h => h) (Or.inl ⟨by kernel_rfl, ?_⟩) (by assumption) ?_
          rotate_left
          · intro w' hSw
            go_simp
            try with_reducible rfl
          try simp only [Act.put, List.setIfInBounds_toArray, List.set_cons_zero, List.set_cons_succ]
          refine wpAnyH_done (by kernel_rfl) ?_ _
          refine NoPanic.normal ?_
          simp only [Act.put, List.getElem_toArray, List.getElem_cons_succ, List.getElem_cons_zero, List.setIfInBounds_toArray, List.set_cons_zero, List.set_cons_succ]
          go_wp2
          exact ⟨⟨I + 1, by go_num, by omega, ⟨HBx.out.os, HBx.out.tape, HBx.out.output, HBx.out.size, HBx.out.block⟩⟩, by simp [intOf]; omega⟩
        · obtain rfl : I = 8 := by omega
          rw [show ((8 : Nat) : Int) = 8 from rfl]
          go_wp2_with fail
          go_ret
          exact ⟨rfl, below_step HB8.out HBE.out⟩
theorem fits_any (A B : Option Addr) (ca cb : Nat) (zs ls : List Int) (but : Int) (cs : Array Value) (zone off : Nat → Int) (tag : Nat → ByteArray) (hcap : zs.length ≤ ca) (hT : Tab cs zone off tag) (w : World)
    (hA : Ints w A zs) (hB : Ints w B ls) :
    Calls Try.prog 7 #[.slice A zs.length ca, .slice B ls.length cb, .int .i64 but, .agg cs] w fun e w' => e = .returned (.bool true) ∧ Below w.heap.size w w' := by
  by_cases h : 20 < zs.length ∨ 20 < ls.length
  · exact fits_wide A B zs.length ls.length ca cb but cs h w
  · exact fits_good A B ca cb zs ls but cs zone off tag (by omega) (by omega) hcap hT w hA hB
end Go.Proofs.Ytmligbaalbbgiaa

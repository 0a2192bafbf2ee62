/- The functions space.Victim and salternref.Victim. Conditions: at most 20 zones, whose numbers are numbers of Go. -/
import Derived.Test.YtmligbaalbbgiaaProg
import Derived.Test.YtmligbaalbbgiaaBase
import Derived.Test.YtmligbaalbbgiaaSpaceS
import Derived.Test.YtmligbaalbbgiaaSpace1
namespace Go.Proofs.Ytmligbaalbbgiaa
open Go.RowKit

def bestI : Option Nat → Int
  | none => -1
  | some b => (b : Int)
/-- What Victim answers. -/
def vicV : Option Nat → Value
  | none => .tuple #[.int .i64 0, .bool false]
  | some b => .tuple #[.int .i64 (b : Int), .bool true]
theorem drewN_drewN (w : World) (a b : Nat) : (w.drewN a).drewN b = w.drewN (a + b) := by simp [World.drewN, Nat.add_assoc]
theorem vicAt_cand {zs ls : List Int} {k b : Nat} (h : vicAt zs ls k = some b) : b < k ∧ b < ls.length ∧ 16 ≤ ith zs b := by
  have := vicAt_best zs ls k
  rw [h] at this
  have this : Best zs ls 0 k b := this
  exact ⟨this.lt, this.cand.2, this.cand.1⟩
theorem vicDown_cand {zs ls : List Int} {n d b : Nat} (hd : d ≤ n) (h : vicDown zs ls n d = some b) : b < n ∧ b < ls.length ∧ 16 ≤ ith zs b := by
  have := vicDown_best zs ls n d hd
  rw [h] at this
  have this : Best zs ls (n - d) n b := this
  exact ⟨this.lt, this.cand.2, this.cand.1⟩

set_option maxRecDepth 100000 in
set_option maxHeartbeats 4000000 in
theorem victim_any (A B : Option Addr) (cap cbp : Nat) (zs ls : List Int) (hl : zs.length ≤ 20) (hl2 : ls.length ≤ 20) (w : World) (hA : Ints w A zs) (hB : Ints w B ls) :
    Calls Try.prog 30 #[.slice A zs.length cap, .slice B ls.length cbp] w fun e w' => e = .returned (vicV (vicAt zs ls zs.length)) ∧ ∃ k, w' = w.drewN k := by
  have HA := hide hA
  have HB := hide hB
  clear hA hB
  go_enter Try.func30, Try.ntmps30
  go_wp2
  go_loopw [6, 11] (fun b i wr => ∃ I : Nat, i = .int .i64 (I : Int) ∧ I ≤ zs.length ∧ b = .int .i64 (bestI (vicAt zs ls I)) ∧ ∃ k, wr = w.drewN k) (fun _ i _ => zs.length - (intOf i).toNat)
  case atStart => exact ⟨0, rfl, by omega, rfl, 0, rfl⟩
  case round =>
    obtain ⟨I, rfl, hI, rfl, q, rfl⟩ := hrel
    have HA1 := hide (HA.out.drewN q)
    have HB1 := hide (HB.out.drewN q)
    obtain ⟨wa, hwa⟩ : ∃ wa, wa = w.drewN q := ⟨_, rfl⟩
    rw [← hwa] at HA1 HB1 ⊢
    have HWA := hide hwa
    clear hwa
    by_cases hlt : I < zs.length
    · have d0 : decide (I < zs.length) = true := by simpa using hlt
      obtain ⟨a, rfl, ha, hcell⟩ := HA1.out.at_ (by omega)
      have cx := hcell I hlt
      obtain ⟨z, hz⟩ : ∃ z, z = ith zs I := ⟨_, rfl⟩
      rw [← hz] at cx
      have HZ := hide hz
      clear hcell ha hz
      obtain ⟨o, ho⟩ : ∃ o, o = vicAt zs ls I := ⟨_, rfl⟩
      rw [← ho]
      have HO := hide ho
      clear ho
      by_cases hz16 : 16 ≤ z
      · have d1 : decide ((16 : Int) ≤ z) = true := by simpa using hz16
        by_cases hil : I < ls.length
        · have d2 : decide (I < ls.length) = true := by simpa using hil
          have HCD : Hid (Cand zs ls I) := hide ⟨by rw [← HZ.out]; exact hz16, hil⟩
          obtain ⟨b0, rfl, hb0, hcellb⟩ := HB1.out.at_ (by omega)
          have cl := hcellb I hil
          obtain ⟨y, hy⟩ : ∃ y, y = ith ls I := ⟨_, rfl⟩
          rw [← hy] at cl
          have HY := hide hy
          cases o with
          | none =>
            have HN : Hid (vicAt zs ls (I + 1) = some I) := hide (by rw [vicAt, ← HO.out]; simp [HCD.out])
            clear hcellb hb0 hy hz16 hil
            rw [show bestI none = -1 from rfl]
            go_upto_region 5 with fail
            go_quiet (fail)
            go_wp2
            exact ⟨⟨I + 1, by go_num, by omega, by rw [HN.out]; rfl, q + nq, by rw [HWA.out, drewN_drewN]⟩, by simp [intOf]; omega⟩
          | some b =>
            obtain ⟨c1, c2, c3⟩ := vicAt_cand HO.out.symm
            have cb := hcellb b c2
            obtain ⟨x, hx⟩ : ∃ x, x = ith ls b := ⟨_, rfl⟩
            rw [← hx] at cb
            have HX := hide hx
            rw [show bestI (some b) = (b : Int) from rfl]
            have d3 : decide ((b : Int) < 0) = false := by simp
            by_cases hyx : y < x
            · have d4 : decide (y < x) = true := by simpa using hyx
              have HN : Hid (vicAt zs ls (I + 1) = some I) := hide (by rw [vicAt, ← HO.out]; simp only [HCD.out, ← HY.out, ← HX.out, hyx, and_self, if_true])
              clear hcellb hb0 hy hz16 hx hyx
              go_upto_region 5 with fail
              go_quiet (fail)
              go_wp2
              exact ⟨⟨I + 1, by go_num, by omega, by rw [HN.out]; rfl, q + nq, by rw [HWA.out, drewN_drewN]⟩, by simp [intOf]; omega⟩
            · have d4 : decide (y < x) = false := by simpa using hyx
              have HN : Hid (vicAt zs ls (I + 1) = some b) := hide (by rw [vicAt, ← HO.out]; simp only [← HY.out, ← HX.out, hyx, and_false, if_false])
              clear hcellb hb0 hy hz16 hx hyx
              go_upto_region 5 with fail
              go_quiet (fail)
              go_wp2
              exact ⟨⟨I + 1, by go_num, by omega, by rw [HN.out]; rfl, q + nq, by rw [HWA.out, drewN_drewN]⟩, by simp [intOf]; omega⟩
        · have d2 : decide (I < ls.length) = false := by simpa using hil
          have HN : Hid (vicAt zs ls (I + 1) = o) := hide (by
            have hnc : ¬ Cand zs ls I := fun h => hil h.2
            rw [vicAt, ← HO.out]
            cases o with
            | none => simp [hnc]
            | some b => simp [hnc])
          clear hz16 hil
          go_upto_region 5 with fail
          go_quiet (fail)
          go_wp2
          exact ⟨⟨I + 1, by go_num, by omega, by rw [HN.out], q + nq, by rw [HWA.out, drewN_drewN]⟩, by simp [intOf]; omega⟩
      · have d1 : decide ((16 : Int) ≤ z) = false := by simpa using hz16
        have HN : Hid (vicAt zs ls (I + 1) = o) := hide (by
          have hnc : ¬ Cand zs ls I := fun h => hz16 (by rw [HZ.out]; exact h.1)
          rw [vicAt, ← HO.out]
          cases o with
          | none => simp [hnc]
          | some b => simp [hnc])
        clear hz16
        go_upto_region 5 with fail
        go_quiet (fail)
        go_wp2
        exact ⟨⟨I + 1, by go_num, by omega, by rw [HN.out], q + nq, by rw [HWA.out, drewN_drewN]⟩, by simp [intOf]; omega⟩
    · obtain rfl : I = zs.length := by omega
      have d0 : decide (zs.length < zs.length) = false := by simp
      obtain ⟨o, ho⟩ : ∃ o, o = vicAt zs ls zs.length := ⟨_, rfl⟩
      rw [← ho]
      have HO := hide ho
      clear ho
      cases o with
      | none =>
        rw [show bestI none = -1 from rfl]
        go_wp2
        go_ret2
        refine ⟨?_, q, HWA.out⟩
        rw [← HO.out]
        rfl
      | some b =>
        rw [show bestI (some b) = (b : Int) from rfl]
        have d3 : decide ((b : Int) < 0) = false := by simp
        have d4 : decide ((0 : Int) ≤ (b : Int)) = true := by simp
        go_wp2
        go_ret2
        refine ⟨?_, q, HWA.out⟩
        rw [← HO.out]
        rfl
def zI : Option Nat → Int
  | none => 0
  | some b => (b : Int)
def okB : Option Nat → Bool
  | none => false
  | some _ => true
theorem vicDown_step (zs ls : List Int) (n i : Nat) (hi : i < n) : vicDown zs ls n (n - i) = match vicDown zs ls n (n - (i + 1)) with
    | none => if Cand zs ls i then some i else none
    | some b => if Cand zs ls i ∧ ith ls i ≤ ith ls b then some i else some b := by
  obtain ⟨d, hd⟩ : ∃ d, d = n - (i + 1) := ⟨_, rfl⟩
  rw [show n - i = d + 1 from by omega, ← hd, vicDown, show n - 1 - d = i from by omega]
  cases vicDown zs ls n d <;> rfl

set_option maxRecDepth 100000 in
set_option maxHeartbeats 4000000 in
theorem refVictim_any (A B : Option Addr) (cap cbp : Nat) (zs ls : List Int) (hl : zs.length ≤ 20) (hl2 : ls.length ≤ 20) (w : World) (hA : Ints w A zs) (hB : Ints w B ls) :
    Calls Try.prog 29 #[.slice A zs.length cap, .slice B ls.length cbp] w fun e w' => e = .returned (vicV (vicAt zs ls zs.length)) ∧ ∃ k, w' = w.drewN k := by
  have HA := hide hA
  have HB := hide hB
  clear hA hB
  obtain ⟨n, hn⟩ : ∃ n, n = zs.length := ⟨_, rfl⟩
  rw [← vic_alike, ← hn] 
  rw [← hn] at hl
  have HN0 := hide hn
  clear hn
  go_enter Try.func29, Try.ntmps29
  go_wp2
  go_loopw [6, 7, 8] (fun z k i wr => ∃ I : Nat, i = .int .i64 ((I : Int) - 1) ∧ I ≤ n ∧ z = .int .i64 (zI (vicDown zs ls n (n - I))) ∧ k = .bool (okB (vicDown zs ls n (n - I))) ∧ ∃ q, wr = w.drewN q) (fun _ _ i _ => (intOf i + 1).toNat)
  case atStart => exact ⟨n, rfl, by omega, by rw [Nat.sub_self]; rfl, by rw [Nat.sub_self]; rfl, 0, rfl⟩
  case round =>
    obtain ⟨I, rfl, hI, rfl, rfl, q, rfl⟩ := hrel
    have HA1 := hide (HA.out.drewN q)
    have HB1 := hide (HB.out.drewN q)
    obtain ⟨wa, hwa⟩ : ∃ wa, wa = w.drewN q := ⟨_, rfl⟩
    rw [← hwa] at HA1 HB1 ⊢
    have HWA := hide hwa
    clear hwa
    cases I with
    | zero =>
      rw [show ((0 : Nat) : Int) - 1 = -1 from rfl]
      obtain ⟨o, ho⟩ : ∃ o, o = vicDown zs ls n n := ⟨_, rfl⟩
      rw [show n - 0 = n from rfl, ← ho]
      have HO := hide ho
      clear ho
      cases o with
      | none =>
        rw [show zI none = 0 from rfl, show okB none = false from rfl]
        go_wp2
        go_ret2
        refine ⟨?_, q, HWA.out⟩
        rw [← HO.out]
        rfl
      | some b =>
        rw [show zI (some b) = (b : Int) from rfl, show okB (some b) = true from rfl]
        go_wp2
        go_ret2
        refine ⟨?_, q, HWA.out⟩
        rw [← HO.out]
        rfl
    | succ i =>
      rw [show ((i + 1 : Nat) : Int) - 1 = (i : Int) from by omega]
      have hlt : i < n := by omega
      have c0 : decide ((0 : Int) ≤ (i : Int)) = true := by simp
      obtain ⟨a, rfl, ha, hcell⟩ := HA1.out.at_ (by rw [← HN0.out]; omega)
      have cx := hcell i (by rw [← HN0.out]; exact hlt)
      obtain ⟨z, hz⟩ : ∃ z, z = ith zs i := ⟨_, rfl⟩
      rw [← hz] at cx
      have HZ := hide hz
      have HST := hide (vicDown_step zs ls n i hlt)
      clear hcell ha hz
      obtain ⟨o, ho⟩ : ∃ o, o = vicDown zs ls n (n - (i + 1)) := ⟨_, rfl⟩
      rw [← ho] at HST ⊢
      have HO := hide ho
      clear ho
      have HEND : Hid (∀ (o' : Option Nat) (m : Nat), vicDown zs ls n (n - i) = o' → ((∃ I : Nat, Value.int .i64 ((i : Int) - 1) = .int .i64 ((I : Int) - 1) ∧ I ≤ n ∧ Value.int .i64 (zI o') = .int .i64 (zI (vicDown zs ls n (n - I))) ∧ Value.bool (okB o') = .bool (okB (vicDown zs ls n (n - I))) ∧ ∃ q, wa.drewN m = w.drewN q) ∧ (intOf (.int .i64 ((i : Int) - 1)) + 1).toNat < (intOf (.int .i64 (i : Int)) + 1).toNat)) := hide (by
        intro o' m he
        refine ⟨⟨i, rfl, by omega, by rw [he], by rw [he], q + m, by rw [HWA.out, drewN_drewN]⟩, by simp [intOf]⟩)
      by_cases hil : i < ls.length
      · have d2 : decide (i < ls.length) = true := by simpa using hil
        obtain ⟨b0, rfl, hb0, hcellb⟩ := HB1.out.at_ (by omega)
        have cl := hcellb i hil
        obtain ⟨y, hy⟩ : ∃ y, y = ith ls i := ⟨_, rfl⟩
        rw [← hy] at cl
        have HY := hide hy
        by_cases hz16 : 16 ≤ z
        · have d1 : decide ((16 : Int) ≤ z) = true := by simpa using hz16
          have HCD : Hid (Cand zs ls i) := hide ⟨by rw [← HZ.out]; exact hz16, hil⟩
          cases o with
          | none =>
            have HN : Hid (vicDown zs ls n (n - i) = some i) := hide (by rw [HST.out]; simp [HCD.out])
            rw [show zI none = 0 from rfl, show okB none = false from rfl]
            clear hcellb hb0 hy hz16
            go_upto_region 5 with fail
            go_quiet (fail)
            go_wp2
            exact HEND.out (some i) _ HN.out
          | some b =>
            obtain ⟨c1, c2, c3⟩ := vicDown_cand (by omega) HO.out.symm
            have cb := hcellb b c2
            obtain ⟨x, hx⟩ : ∃ x, x = ith ls b := ⟨_, rfl⟩
            rw [← hx] at cb
            have HX := hide hx
            rw [show zI (some b) = (b : Int) from rfl, show okB (some b) = true from rfl]
            by_cases hyx : y ≤ x
            · have d4 : decide (y ≤ x) = true := by simpa using hyx
              have HN : Hid (vicDown zs ls n (n - i) = some i) := hide (by rw [HST.out]; simp only [HCD.out, ← HY.out, ← HX.out, hyx, and_self, if_true])
              clear hcellb hb0 hy hz16 hx hyx
              go_upto_region 5 with fail
              go_quiet (fail)
              go_wp2
              exact HEND.out (some i) _ HN.out
            · have d4 : decide (y ≤ x) = false := by simpa using hyx
              have HN : Hid (vicDown zs ls n (n - i) = some b) := hide (by rw [HST.out]; simp only [← HY.out, ← HX.out, hyx, and_false, if_false])
              clear hcellb hb0 hy hz16 hx hyx
              go_upto_region 5 with fail
              go_quiet (fail)
              go_wp2
              exact HEND.out (some b) _ HN.out
        · have d1 : decide ((16 : Int) ≤ z) = false := by simpa using hz16
          have HN : Hid (vicDown zs ls n (n - i) = o) := hide (by
            have hnc : ¬ Cand zs ls i := fun h => hz16 (by rw [HZ.out]; exact h.1)
            rw [HST.out]
            cases o with
            | none => simp [hnc]
            | some b => simp [hnc])
          clear hz16 hcellb hb0 hy
          go_upto_region 5 with fail
          go_quiet (fail)
          go_wp2
          exact HEND.out o _ HN.out
      · have d2 : decide (i < ls.length) = false := by simpa using hil
        have HN : Hid (vicDown zs ls n (n - i) = o) := hide (by
          have hnc : ¬ Cand zs ls i := fun h => hil h.2
          rw [HST.out]
          cases o with
          | none => simp [hnc]
          | some b => simp [hnc])
        go_upto_region 5 with fail
        go_quiet (fail)
        go_wp2
        exact HEND.out o _ HN.out
end Go.Proofs.Ytmligbaalbbgiaa

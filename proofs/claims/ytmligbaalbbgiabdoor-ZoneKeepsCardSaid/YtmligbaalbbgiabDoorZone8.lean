/- The functions salternkeep.pick, few's closure, slices.IndexFunc, slices.ContainsFunc, few. Condition: a slice that can be read. -/
import Derived.Test.YtmligbaalbbgiabDoorProg
import Derived.Test.YtmligbaalbbgiabDoorZone4
namespace Go.Proofs.YtmligbaalbbgiabDoor
open Go.RowKit

theorem pick_any (x : Int) (w : World) : Calls Tryd.prog 14 #[.int .i64 x, .int .i64 8] w fun e w' => w' = w ∧ ∃ Z : Nat, Z < 8 ∧ e = .returned (.int .i64 (Z : Int)) := by
  have h0 : IntKind.u64.wrap x = x % 18446744073709551616 := by simp [IntKind.wrap, IntKind.bits, IntKind.signed]
  have h1 : (IntKind.u64.wrap x).tmod 8 = (x % 18446744073709551616) % 8 := by
    rw [h0, Int.tmod_eq_emod_of_nonneg (by omega)]
  have h2 : wrap64 ((IntKind.u64.wrap x).tmod 8) = (((x % 18446744073709551616) % 8).toNat : Int) := by
    rw [h1]; simp only [wrap64]; omega
  have H2 := hide h2
  clear h0 h1 h2
  go_enter Tryd.func14, Tryd.ntmps14
  go_wp2_with fail
  go_ret
  refine ⟨rfl, ((x % 18446744073709551616) % 8).toNat, by omega, ?_⟩
  rw [← H2.out]
  rfl

theorem overFew (s : ByteArray) (w : World) : Calls Tryd.prog 97 #[.string s] w fun e w' => e = .returned (.bool (decide (80 < s.size))) ∧ w' = w := by
  by_cases h : 80 < s.size
  · have c : decide (80 < s.size) = true := by simpa using h
    have c' : decide ((80 : Int) < (s.size : Int)) = true := by simp; omega
    go_enter Tryd.func97, Tryd.ntmps97
    go_wp2_with fail
    go_ret
    exact ⟨by rw [c]; rfl, rfl⟩
  · have c : decide (80 < s.size) = false := by simpa using h
    have c' : decide ((80 : Int) < (s.size : Int)) = false := by simp; omega
    go_enter Tryd.func97, Tryd.ntmps97
    go_wp2_with fail
    go_ret
    exact ⟨by rw [c]; rfl, rfl⟩

set_option maxRecDepth 100000 in
theorem indexFew {w : World} {a : Option Addr} {n cap : Nat} {l : List ByteArray} (h : StrsAt w a n cap l) (hl : l.length ≤ 65536) :
    Calls Tryd.prog 64 #[.slice a n cap, .func (.func 97) #[] #[]] w fun e w' => w' = w ∧ ∃ r : Int, e = .returned (.int .i64 r) ∧ ((r = -1 ∧ ∀ s ∈ l, s.size ≤ 80) ∨ (0 ≤ r ∧ ∃ s ∈ l, 80 < s.size)) := by
  have HN := hide h.hn
  have HLL := hide hl
  have H := hide h
  clear h hl
  go_enter Tryd.func64, Tryd.ntmps64
  go_wp2_with fail
  go_loopw [8] (fun i wr => ∃ I : Nat, i = .int .i64 (I : Int) ∧ I ≤ n ∧ (∀ j, j < I → (l.getD j ⟨#[]⟩).size ≤ 80) ∧ wr = w) (fun i _ => n - (intOf i).toNat)
  case atStart => exact ⟨0, rfl, by omega, fun j hj => by omega, rfl⟩
  case round =>
    obtain ⟨I, rfl, hI, hall, rfl⟩ := hrel
    have HALL := hide hall
    have hn65 : n ≤ 65536 := by rw [HN.out]; exact HLL.out
    clear hall
    by_cases hlt : I < n
    · have d0 : decide (I < n) = true := by simpa using hlt
      have hIl : I < l.length := by rw [← HN.out]; exact hlt
      obtain ⟨x, rfl⟩ : ∃ x, a = some x := by
        cases a with
        | none => have := (H.out.hz rfl).1; omega
        | some x => exact ⟨x, rfl⟩
      have cx := H.out.hcell x rfl I hIl
      obtain ⟨s, hs⟩ : ∃ s, s = l.getD I ⟨#[]⟩ := ⟨_, rfl⟩
      rw [← hs] at cx
      have HS := hide hs
      have hmem : l.getD I ⟨#[]⟩ ∈ l := by rw [List.getD, List.getElem?_eq_getElem hIl]; exact List.getElem_mem _
      have HMEM := hide hmem
      clear hs hmem
      by_cases ho : 80 < s.size
      · have c : decide (80 < s.size) = true := by simpa using ho
        have HO := hide ho
        clear ho
        go_wp2_with (go_at_call 97; refine (overFew s _).mono ?_; rintro e w1 ⟨rfl, rfl⟩; rw [c])
        go_ret
        exact ⟨rfl, (I : Int), rfl, .inr ⟨by omega, s, by rw [HS.out]; exact HMEM.out, HO.out⟩⟩
      · have c : decide (80 < s.size) = false := by simpa using ho
        have HO := hide ho
        clear ho
        go_wp2_with (go_at_call 97; refine (overFew s _).mono ?_; rintro e w1 ⟨rfl, rfl⟩; rw [c])
        refine ⟨⟨I + 1, by go_num, by omega, fun j hj => ?_, trivial⟩, by simp [intOf]; omega⟩
        rcases Nat.lt_succ_iff_lt_or_eq.1 hj with h | h
        · exact HALL.out j h
        · rw [h, ← HS.out]; exact Nat.le_of_not_lt HO.out
    · obtain rfl : I = n := by omega
      have d0 : decide (I < I) = false := by simp
      have hend : ∀ s ∈ l, s.size ≤ 80 := fun s hs => by
        obtain ⟨j, hj, rfl⟩ := List.getElem_of_mem hs
        have := HALL.out j (by rw [HN.out]; exact hj)
        rwa [List.getD, List.getElem?_eq_getElem hj] at this
      have HE := hide hend
      clear hend
      go_wp2_with fail
      go_ret
      exact ⟨rfl, -1, rfl, .inl ⟨rfl, HE.out⟩⟩

theorem containsFew {w : World} {a : Option Addr} {n cap : Nat} {l : List ByteArray} (h : StrsAt w a n cap l) (hl : l.length ≤ 65536) :
    Calls Tryd.prog 10 #[.slice a n cap, .func (.func 97) #[] #[]] w fun e w' => w' = w ∧ ((e = .returned (.bool false) ∧ ∀ s ∈ l, s.size ≤ 80) ∨ (e = .returned (.bool true) ∧ ∃ s ∈ l, 80 < s.size)) := by
  by_cases hx : ∀ s ∈ l, s.size ≤ 80
  · have hi : Calls Tryd.prog 64 #[.slice a n cap, .func (.func 97) #[] #[]] w fun e w' => w' = w ∧ e = .returned (.int .i64 (-1)) :=
      (indexFew h hl).mono fun e w' ⟨hw, r, he, hr⟩ => ⟨hw, by
        rcases hr with ⟨rfl, _⟩ | ⟨_, s, hs, ho⟩
        · exact he
        · have := hx s hs; omega⟩
    have HI := hide hi
    have HX := hide hx
    clear h hl hi hx
    go_enter Tryd.func10, Tryd.ntmps10
    go_wp2_with (go_at_call 64; refine HI.out.mono ?_; rintro e w1 ⟨rfl, rfl⟩)
    go_ret
    exact ⟨rfl, .inl ⟨rfl, HX.out⟩⟩
  · have hx2 : ∃ s ∈ l, 80 < s.size := by
      refine Classical.byContradiction fun hc => hx fun s hs => Nat.le_of_not_lt fun ho => hc ⟨s, hs, ho⟩
    have HX := hide hx2
    have HI := hide (indexFew h hl)
    have HNX := hide hx
    clear h hl hx hx2
    go_enter Tryd.func10, Tryd.ntmps10
    go_wp2_with (go_at_call 64; refine HI.out.mono ?_; rintro e w1 ⟨rfl, r, rfl, hr⟩; have hr0 : (0 : Int) ≤ r := (hr.elim (fun h => absurd h.2 HNX.out) (fun h => h.1)); have hd0 : decide ((0 : Int) ≤ r) = true := (by simpa using hr0); clear hr)
    go_ret
    exact ⟨rfl, .inr ⟨rfl, HX.out⟩⟩


/-- few: a text list that is short, of short texts. -/
def fewB (l : List ByteArray) : Bool := decide (l.length ≤ 20 ∧ ∀ s ∈ l, s.size ≤ 80)
set_option maxRecDepth 100000 in
theorem few_any {w : World} {a : Option Addr} {n cap : Nat} {l : List ByteArray} (h : StrsAt w a n cap l) :
    Calls Tryd.prog 51 #[.slice a n cap] w fun e w' => e = .returned (.bool (fewB l)) ∧ w' = w := by
  by_cases h1 : l.length ≤ 20
  · have c : decide ((n : Int) ≤ 20) = true := by have := h.hn; simp; omega
    have c' : decide (n ≤ 20) = true := by have := h.hn; simp; omega
    have hco := containsFew h (by omega)
    by_cases h2 : ∀ s ∈ l, s.size ≤ 80
    · have e : fewB l = true := by simp only [fewB, decide_eq_true_eq]; exact ⟨h1, h2⟩
      rw [e]
      have HC := hide hco
      have H2 := hide h2
      clear h h1 hco h2 e
      go_enter Tryd.func51, Tryd.ntmps51
      go_wp2_with (go_at_call 10; refine HC.out.mono ?_; rintro e w1 ⟨rfl, hr⟩; have he : e = .returned (.bool false) := (hr.elim (fun h => h.1) (fun h => by obtain ⟨_, s, hs, ho⟩ := h; have := H2.out s hs; omega)); subst he; clear hr)
      go_ret
      exact ⟨rfl, rfl⟩
    · have e : fewB l = false := by simp only [fewB, decide_eq_false_iff_not]; exact fun hc => h2 hc.2
      rw [e]
      have HC := hide hco
      have H2 := hide h2
      clear h h1 hco h2 e
      go_enter Tryd.func51, Tryd.ntmps51
      go_wp2_with (go_at_call 10; refine HC.out.mono ?_; rintro e w1 ⟨rfl, hr⟩; have he : e = .returned (.bool true) := (hr.elim (fun h => absurd h.2 H2.out) (fun h => h.1)); subst he; clear hr)
      go_ret
      exact ⟨rfl, rfl⟩
  · have c : decide ((n : Int) ≤ 20) = false := by have := h.hn; simp; omega
    have c' : decide (n ≤ 20) = false := by have := h.hn; simp; omega
    have e : fewB l = false := by simp only [fewB, decide_eq_false_iff_not]; exact fun hc => h1 hc.1
    rw [e]
    clear h h1 e
    go_enter Tryd.func51, Tryd.ntmps51
    go_wp2_with fail
    go_ret
    exact ⟨rfl, rfl⟩
end Go.Proofs.YtmligbaalbbgiabDoor

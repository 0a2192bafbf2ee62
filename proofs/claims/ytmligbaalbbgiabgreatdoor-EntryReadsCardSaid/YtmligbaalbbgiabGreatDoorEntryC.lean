/- Numbers and files, looked through: slices.Index, Contains, Equal, IsSorted at numbers; IndexFunc and ContainsFunc at files, for held and Free. Condition: what is looked through can be read, and is no longer than 65536. -/
import Derived.Test.YtmligbaalbbgiabGreatDoorEntryS
namespace Go.Proofs.YtmligbaalbbgiabGreatDoor
open Go.RowKit

set_option maxRecDepth 100000 in
theorem index_int {W : World} {A : Option Addr} {n c : Nat} {ks : List Int} (h : IntsIn W A ks) (hn : n = ks.length) (hl : n ≤ 65536) (x : Int) :
    Calls Tryz.prog 48 #[.slice A n c, .int .i64 x] W fun e w' => W = w' ∧ ∃ r : Int, e = .returned (.int .i64 r) ∧ ((r = -1 ∧ x ∉ ks) ∨ (0 ≤ r ∧ x ∈ ks)) := by
  have H := hide h
  have HN := hide hn
  clear h hn
  go_enter Tryz.func48, Tryz.ntmps48
  go_wp2_with fail
  go_loopw [8] (fun i wr => ∃ I : Nat, i = .int .i64 (I : Int) ∧ I ≤ n ∧ (∀ j, j < I → ks.getD j 0 ≠ x) ∧ W = wr) (fun i _ => n - (intOf i).toNat)
  case atStart => exact ⟨0, rfl, by omega, fun j hj => by omega, rfl⟩
  case round =>
    obtain ⟨I, rfl, hI, hall, rfl⟩ := hrel
    have HALL := hide hall
    clear hall
    by_cases hlt : I < n
    · have d0 : decide (I < n) = true := by simpa using hlt
      have hIl : I < ks.length := by rw [← HN.out]; exact hlt
      obtain ⟨a, rfl, -, hcell⟩ := H.out (by omega)
      have cx := hcell I hIl
      obtain ⟨k, hk⟩ : ∃ k, k = ks.getD I 0 := ⟨_, rfl⟩
      rw [← hk] at cx
      have HK := hide hk
      have hmem : ks.getD I 0 ∈ ks := by rw [List.getD, List.getElem?_eq_getElem hIl]; exact List.getElem_mem _
      have HMEM := hide hmem
      clear hk hmem hcell
      by_cases ho : x = k
      · have c1 : (x == k) = true := by simpa using ho
        have HO := hide ho
        clear ho
        go_wp2_with fail
        go_ret
        exact ⟨rfl, (I : Int), rfl, .inr ⟨by omega, by rw [HO.out, HK.out]; exact HMEM.out⟩⟩
      · have c1 : (x == k) = false := by simpa using ho
        have HO := hide ho
        clear ho
        go_wp2_with fail
        refine ⟨⟨I + 1, by go_num, by omega, fun j hj => ?_, trivial⟩, by simp [intOf]; omega⟩
        rcases Nat.lt_succ_iff_lt_or_eq.1 hj with h | h
        · exact HALL.out j h
        · rw [h, ← HK.out]; exact fun e => HO.out e.symm
    · obtain rfl : I = n := by omega
      have d0 : decide (I < I) = false := by simp
      have hend : x ∉ ks := fun hs => by
        obtain ⟨j, hj, hx⟩ := List.getElem_of_mem hs
        have := HALL.out j (by rw [HN.out]; exact hj)
        rw [List.getD, List.getElem?_eq_getElem hj] at this
        exact this hx
      have HE := hide hend
      clear hend
      go_wp2_with fail
      go_ret
      exact ⟨rfl, -1, rfl, .inl ⟨rfl, HE.out⟩⟩
theorem contains_int {W : World} {A : Option Addr} {n c : Nat} {ks : List Int} (h : IntsIn W A ks) (hn : n = ks.length) (hl : n ≤ 65536) (x : Int) :
    Calls Tryz.prog 29 #[.slice A n c, .int .i64 x] W fun e w' => e = .returned (.bool (decide (x ∈ ks))) ∧ W = w' := by
  have HI := hide (index_int (c := c) h hn hl x)
  clear h hn hl
  by_cases hx : x ∈ ks
  · have e : decide (x ∈ ks) = true := by simpa using hx
    rw [e]
    have HX := hide hx
    clear hx e
    go_enter Tryz.func29, Tryz.ntmps29
    go_wp2_with (go_at_call 48; refine HI.out.mono ?_; rintro e w1 ⟨rfl, r, rfl, hr⟩; have hr0 : (0 : Int) ≤ r := (hr.elim (fun h => absurd HX.out h.2) (fun h => h.1)); have hd0 : decide ((0 : Int) ≤ r) = true := (by simpa using hr0); clear hr)
    go_ret
    exact ⟨rfl, rfl⟩
  · have e : decide (x ∈ ks) = false := by simpa using hx
    rw [e]
    have HX := hide hx
    clear hx e
    go_enter Tryz.func29, Tryz.ntmps29
    go_wp2_with (go_at_call 48; refine HI.out.mono ?_; rintro e w1 ⟨rfl, r, rfl, hr⟩; obtain rfl : r = -1 := (hr.elim (fun h => h.1) (fun h => absurd h.2 HX.out)); clear hr)
    go_ret
    exact ⟨rfl, rfl⟩

set_option maxRecDepth 100000 in
theorem free1_any (x : FileD) (B : Nat) (k : Int) {W : World} (hk : Boxed W B 3 (.int .i64 k)) (hx : IntsIn W x.cA x.cells) (hl : x.cells.length ≤ 65536) :
    Calls Tryz.prog 28 #[.agg #[.string x.name, .int .i64 x.size, .slice x.cA x.cells.length x.cc], .pointer (some ⟨B, 0, none⟩)] W fun e w' => e = .returned (.bool (decide (k ∈ x.cells))) ∧ Below W.heap.size W w' := by
  have hk1 : Boxed (W.alloc (.cells #[.string x.name, .int .i64 x.size, .slice x.cA x.cells.length x.cc] 44)) B 3 (.int .i64 k) := hk.alloc _
  have hb : Below W.heap.size W (W.alloc (.cells #[.string x.name, .int .i64 x.size, .slice x.cA x.cells.length x.cc] 44)) := (Below.refl _ _).alloc (Nat.le_refl _) _
  have HC := hide (contains_int (c := x.cc) (hx.keep hb) rfl hl k)
  have HB := hide hb
  have ck := hk1.cell
  obtain ⟨q, hq⟩ : ∃ q, q = decide (k ∈ x.cells) := ⟨_, rfl⟩
  rw [← hq] at HC ⊢
  clear hk hk1 hx hl hb hq
  go_enter Tryz.func28, Tryz.ntmps28
  go_wp2_with (go_at_call 29; refine HC.out.mono ?_; rintro e w1 ⟨rfl, rfl⟩)
  go_ret
  exact ⟨rfl, HB.out⟩

set_option maxRecDepth 100000 in
theorem indexFree {w : World} {A : Option Addr} {n c : Nat} {l : List FileD} (h : FilesAt w A n l) (hl : n ≤ 65536) {B : Nat} {k : Int} (hk : Boxed w B 3 (.int .i64 k)) (hcl : ∀ x ∈ l, x.cells.length ≤ 65536) :
    Calls Tryz.prog 47 #[.slice A n c, .func (.func 28) #[] #[.pointer (some ⟨B, 0, none⟩)]] w fun e w' => Below w.heap.size w w' ∧ ∃ r : Int, e = .returned (.int .i64 r) ∧ ((r = -1 ∧ ∀ x ∈ l, decide (k ∈ x.cells) = false) ∨ (0 ≤ r ∧ ∃ x ∈ l, decide (k ∈ x.cells) = true)) := by
  have HN := hide h.hn
  have H := hide h
  have HKB := hide hk
  have HCL := hide hcl
  clear hk hcl
  clear h
  go_enter Tryz.func47, Tryz.ntmps47
  go_wp2_with fail
  go_loopw [8] (fun i wr => ∃ I : Nat, i = .int .i64 (I : Int) ∧ I ≤ n ∧ (∀ x ∈ l.take I, decide (k ∈ x.cells) = false) ∧ Below w.heap.size w wr) (fun i _ => n - (intOf i).toNat)
  case atStart => exact ⟨0, rfl, by omega, fun x hx => (by simp at hx), Below.refl _ _⟩
  case round =>
    obtain ⟨I, rfl, hI, hall, hb⟩ := hrel
    have HALL := hide hall
    clear hall
    by_cases hlt : I < n
    · have d0 : decide (I < n) = true := by simpa using hlt
      obtain ⟨a, x, rfl, hlx, q0, q1, q2, hcs⟩ := (H.out.below hb).row I hlt
      have HLX := hide hlx
      have HB := hide hb
      obtain ⟨p, hp⟩ : ∃ p, p = decide (k ∈ x.cells) := ⟨_, rfl⟩
      have HF := hide (free1_any x B k (show Boxed wr B 3 (.int .i64 k) from (hb.block B HKB.out.lt).trans HKB.out) hcs (HCL.out x (List.mem_of_getElem? hlx)))
      rw [← hp] at HF
      have HP := hide hp
      have HCS := hide hcs
      clear hlx hb hp hcs
      cases p with
      | true =>
        go_wp2_with (go_at_call 28; refine HF.out.mono ?_; rintro e w1 ⟨rfl, hb1⟩; have HB1 := hide (below_step HB.out hb1); clear hb1)
        go_ret
        exact ⟨HB1.out, (I : Int), rfl, .inr ⟨by omega, x, List.mem_of_getElem? HLX.out, HP.out.symm⟩⟩
      | false =>
        go_wp2_with (go_at_call 28; refine HF.out.mono ?_; rintro e w1 ⟨rfl, hb1⟩; have HB1 := hide (below_step HB.out hb1); clear hb1)
        refine ⟨⟨I + 1, by go_num, by omega, fun y hy => ?_, HB1.out⟩, by simp [intOf]; omega⟩
        rw [List.take_add_one, HLX.out, Option.toList_some] at hy
        rcases List.mem_append.1 hy with h | h
        · exact HALL.out y h
        · rw [List.mem_singleton.1 h]; exact HP.out.symm
    · obtain rfl : I = n := by omega
      have d0 : decide (I < I) = false := by simp
      have hend : ∀ x ∈ l, decide (k ∈ x.cells) = false := fun y hy => HALL.out y (by rw [List.take_of_length_le (by rw [← HN.out]; exact Nat.le_refl _)]; exact hy)
      have HE := hide hend
      have HB := hide hb
      clear hend hb
      go_wp2_with fail
      go_ret
      exact ⟨HB.out, -1, rfl, .inl ⟨rfl, HE.out⟩⟩
theorem containsFree {w : World} {A : Option Addr} {n c : Nat} {l : List FileD} (h : FilesAt w A n l) (hl : n ≤ 65536) {B : Nat} {k : Int} (hk : Boxed w B 3 (.int .i64 k)) (hcl : ∀ x ∈ l, x.cells.length ≤ 65536) :
    Calls Tryz.prog 27 #[.slice A n c, .func (.func 28) #[] #[.pointer (some ⟨B, 0, none⟩)]] w fun e w' => e = .returned (.bool (l.any fun x => decide (k ∈ x.cells))) ∧ Below w.heap.size w w' := by
  have HI := hide (indexFree (c := c) h hl hk hcl)
  clear h hl hk hcl
  obtain ⟨q, hq⟩ : ∃ q, q = l.any fun x => decide (k ∈ x.cells) := ⟨_, rfl⟩
  rw [← hq]
  have HQ := hide hq
  clear hq
  cases q with
  | true =>
    go_enter Tryz.func27, Tryz.ntmps27
    go_wp2_with (go_at_call 47; refine HI.out.mono ?_; rintro e w1 ⟨hb1, r, rfl, hr⟩; have HB := hide hb1; have hr0 : (0 : Int) ≤ r := (hr.elim (fun h => (by obtain ⟨y, hy, hy2⟩ := List.any_eq_true.1 HQ.out.symm; rw [h.2 y hy] at hy2; cases hy2)) (fun h => h.1)); have hd0 : decide ((0 : Int) ≤ r) = true := (by simpa using hr0); clear hr hb1)
    go_ret
    exact ⟨rfl, HB.out⟩
  | false =>
    go_enter Tryz.func27, Tryz.ntmps27
    go_wp2_with (go_at_call 47; refine HI.out.mono ?_; rintro e w1 ⟨hb1, r, rfl, hr⟩; have HB := hide hb1; obtain rfl : r = -1 := (hr.elim (fun h => h.1) (fun h => (by obtain ⟨y, hy, hy2⟩ := h.2; have h3 : (l.any fun x => decide (k ∈ x.cells)) = true := List.any_eq_true.2 ⟨y, hy, hy2⟩; rw [← HQ.out] at h3; cases h3))); clear hr hb1)
    go_ret
    exact ⟨rfl, HB.out⟩
end Go.Proofs.YtmligbaalbbgiabGreatDoor

/- The reference's in, Name and Need; entry.Need at any number up to 2^60; a set's number put in again. Condition: a text is as long as an int can tell. -/
import Derived.Test.YtmligbaalbbgiabGreatDoorEntryE
namespace Go.Proofs.YtmligbaalbbgiabGreatDoor
open Go.RowKit

theorem set_again (ks : List Int) (k : Int) (g : Nat) (w : World) (hb : w.heap[g]? = some (setO ks)) (h : k ∈ ks) : (Instr.mapUpdate 50 (.map (some g)) (.int .i64 k) (.bool true)).run Tryz.prog w = .ok () (setBlk w g (setO ks)) := by
  obtain ⟨j, h1, h2, h3⟩ := find_yes k ks 0 0 h
  have he : ∀ (ks : List Int) (b j : Nat), ks[j]? = some k → (setEs b ks)[j]? = some { key := .int .i64 k, val := .bool true, born := b + j } := by
    intro ks
    induction ks with
    | nil => intro b j hj; cases hj
    | cons x r ih =>
      intro b j hj
      cases j with
      | zero =>
        simp only [List.getElem?_cons_zero, Option.some.injEq] at hj
        subst hj
        rfl
      | succ j =>
        simp only [List.getElem?_cons_succ] at hj
        have := ih (b + 1) j hj
        simp only [setEs, List.getElem?_cons_succ, this]
        congr 2
        omega
  have hej := he ks 0 j h3
  simp only [Instr.mapUpdate, Sem.run_bind, run_underlying Tryz.underlying50, Result.andThen, MapKept.run_getObj_map hb, MapKept.run_checkKey Tryz.underlying3 (isKey_i64 k)]
  rw [MapKept.run_findKey Tryz.underlying3 (by simpa using h1)]
  simp only [Result.andThen, Nat.zero_add, List.getElem?_toArray, hej, Option.map_some, Option.getD_some]
  simp only [Sem.run_bind, MapKept.run_keyThatStays (isKey_i64 k), Result.andThen]
  rw [MapKept.run_setObj_map _ hb]
  unfold setBlk setO
  congr 4
  apply Array.ext_getElem?
  intro i
  rw [Array.getElem?_modify]
  by_cases hi : j = i
  · subst hi
    rw [if_pos rfl, List.getElem?_toArray, hej]
    rfl
  · rw [if_neg hi]

/-- What is put into a set, one after the other. -/
def addAll (seen : List Int) : List Int → List Int
  | [] => seen
  | k :: r => addAll (if k ∈ seen then seen else seen ++ [k]) r
theorem set_any (ks : List Int) (k : Int) (g : Nat) (w : World) (hb : w.heap[g]? = some (setO ks)) : (Instr.mapUpdate 50 (.map (some g)) (.int .i64 k) (.bool true)).run Tryz.prog w = .ok () (setBlk w g (setO (if k ∈ ks then ks else ks ++ [k]))) := by
  by_cases h : k ∈ ks
  · rw [if_pos h]; exact set_again ks k g w hb h
  · rw [if_neg h]; exact set_put ks k g w hb h

theorem in_any (n a b : Int) (w : World) : Calls Tryz.prog 24 #[.int .i64 n, .int .i64 a, .int .i64 b] w fun e w' => e = .returned (.bool (decide (a ≤ n ∧ n ≤ b))) ∧ w = w' := by
  by_cases h1 : a ≤ n
  · have c1 : decide (a ≤ n) = true := by simpa using h1
    by_cases h2 : n ≤ b
    · have c2 : decide (n ≤ b) = true := by simpa using h2
      have e : decide (a ≤ n ∧ n ≤ b) = true := by simp [h1, h2]
      rw [e]
      clear e h1 h2
      go_enter Tryz.func24, Tryz.ntmps24
      go_wp2_with fail
      go_ret
      exact ⟨rfl, rfl⟩
    · have c2 : decide (n ≤ b) = false := by simpa using h2
      have e : decide (a ≤ n ∧ n ≤ b) = false := by simp [h2]
      rw [e]
      clear e h1 h2
      go_enter Tryz.func24, Tryz.ntmps24
      go_wp2_with fail
      go_ret
      exact ⟨rfl, rfl⟩
  · have c1 : decide (a ≤ n) = false := by simpa using h1
    have e : decide (a ≤ n ∧ n ≤ b) = false := by simp [h1]
    rw [e]
    clear e h1
    go_enter Tryz.func24, Tryz.ntmps24
    go_wp2_with fail
    go_ret
    exact ⟨rfl, rfl⟩

/-- How many cells so many bytes take, of any number. -/
def needZ (n : Int) : Int := if n ≤ 0 then 0 else (n - 1) / 80 + 1
theorem needZ_nat (n : Nat) : needZ (n : Int) = (needN n : Int) := by
  unfold needZ needN
  split <;> omega
theorem need_z (n : Int) (h0 : -9223372036854775808 ≤ n) (hn : n ≤ 1152921504606846976) (w : World) : Calls Tryz.prog 12 #[.int .i64 n] w fun e w' => e = .returned (.int .i64 (needZ n)) ∧ w = w' := by
  have h1 : wrap64 (n + 80) = n + 80 := by simp only [wrap64]; omega
  have h2 : wrap64 (n + 80 - 1) = n + 80 - 1 := by simp only [wrap64]; omega
  go_enter Tryz.func12, Tryz.ntmps12
  go_wp2_with fail
  go_ret
  refine ⟨?_, rfl⟩
  show Ending.returned (Value.int .i64 (max (n + 80 - 1) 0 / 80)) = _
  have e : max (n + 80 - 1) 0 / 80 = needZ n := by unfold needZ; split <;> omega
  rw [e]
theorem refneed_z (n : Int) (h0 : -9223372036854775808 ≤ n) (hn : n ≤ 9223372036854775807) (w : World) : Calls Tryz.prog 13 #[.int .i64 n] w fun e w' => e = .returned (.int .i64 (needZ n)) ∧ w = w' := by
  by_cases h : n ≤ 0
  · have c : decide (n ≤ 0) = true := by simpa using h
    have e : needZ n = 0 := by unfold needZ; rw [if_pos h]
    rw [e]
    clear e h
    go_enter Tryz.func13, Tryz.ntmps13
    go_wp2_with fail
    go_ret
    exact ⟨rfl, rfl⟩
  · have c : decide (n ≤ 0) = false := by simpa using h
    have e : needZ n = (n - 1) / 80 + 1 := by unfold needZ; rw [if_neg h]
    have h1 : wrap64 (n - 1) = n - 1 := by simp only [wrap64]; omega
    have h2 : wrap64 ((n - 1) / 80 + 1) = (n - 1) / 80 + 1 := by simp only [wrap64]; omega
    have h3 : (0 : Int) ≤ n - 1 := by omega
    rw [e]
    clear e h
    go_enter Tryz.func13, Tryz.ntmps13
    go_wp2_with fail
    go_ret
    refine ⟨?_, rfl⟩
    rfl

/-- A letter that may stand at a place of a name. -/
def chB (i : Nat) (c : UInt8) : Bool := (decide (97 ≤ c.toNat) && decide (c.toNat ≤ 122)) || (decide (i ≠ 0) && decide (48 ≤ c.toNat) && decide (c.toNat ≤ 57))
def chsB (i : Nat) : List UInt8 → Bool
  | [] => true
  | c :: r => chB i c && chsB (i + 1) r
set_option maxRecDepth 100000 in
theorem low_iff (c : UInt8) : c ∈ lowL ↔ 97 ≤ c.toNat ∧ c.toNat ≤ 122 := by
  have h : ∀ n : Fin 256, decide (UInt8.ofNat n.val ∈ lowL) = decide (97 ≤ n.val ∧ n.val ≤ 122) := by decide
  have h1 := h ⟨c.toNat, UInt8.toNat_lt c⟩
  simp only [UInt8.ofNat_toNat] at h1
  rwa [decide_eq_decide] at h1
set_option maxRecDepth 100000 in
theorem lowDig_iff (c : UInt8) : c ∈ lowDig ↔ (97 ≤ c.toNat ∧ c.toNat ≤ 122) ∨ (48 ≤ c.toNat ∧ c.toNat ≤ 57) := by
  have h : ∀ n : Fin 256, decide (UInt8.ofNat n.val ∈ lowDig) = decide ((97 ≤ n.val ∧ n.val ≤ 122) ∨ (48 ≤ n.val ∧ n.val ≤ 57)) := by decide
  have h1 := h ⟨c.toNat, UInt8.toNat_lt c⟩
  simp only [UInt8.ofNat_toNat] at h1
  rwa [decide_eq_decide] at h1
theorem trimS_all {l cs : List UInt8} (h : ∀ x ∈ l, x ∈ cs) : Lib.trimS l cs = [] := by
  have h1 : l.reverse.dropWhile (cs.contains ·) = [] := by
    cases hc : l.reverse.dropWhile (cs.contains ·) with
    | nil => rfl
    | cons a r =>
      have h2 := dropWhile_head hc
      have h3 : a ∈ l.reverse := (List.dropWhile_sublist (cs.contains ·)).subset (by rw [hc]; exact List.mem_cons_self ..)
      have h4 := h a (by simpa using h3)
      have h5 : cs.contains a = true := by simpa using h4
      rw [h5] at h2
      cases h2
  unfold Lib.trimS Lib.trimRightS
  rw [h1]
  rfl
theorem chs_pos (i : Nat) (hi : i ≠ 0) (l : List UInt8) : chsB i l = true ↔ ∀ c ∈ l, c ∈ lowDig := by
  induction l generalizing i with
  | nil => simp [chsB]
  | cons c r ih =>
    simp only [chsB, Bool.and_eq_true, List.forall_mem_cons, ih (i + 1) (by omega), lowDig_iff]
    simp [chB, hi]
theorem name_ref (l : List UInt8) : nameB l = (chsB 0 l && decide (1 ≤ l.length ∧ l.length ≤ 10)) := by
  rw [Bool.eq_iff_iff]
  unfold nameB
  simp only [decide_eq_true_eq, Bool.and_eq_true]
  cases l with
  | nil => simp
  | cons c r =>
    have hc : 0 ≤ Lib.indexByte lowL c ↔ c ∈ lowL := by
      have h := Lib.contains_iff_indexByte lowL c
      rw [← decide_eq_true_eq (p := 0 ≤ Lib.indexByte lowL c), ← h]
      simp
    simp only [List.headD_cons, hc, chsB, Bool.and_eq_true, chs_pos 1 (by omega)]
    constructor
    · rintro ⟨-, h2, h3, h4⟩
      have h5 := trimS_nil h4
      refine ⟨⟨?_, fun x hx => h5 x (List.mem_cons_of_mem _ hx)⟩, by simp, h2⟩
      have := (low_iff c).1 h3
      simp [chB, this]
    · rintro ⟨⟨h1, h2⟩, -, h3⟩
      have h6 : 97 ≤ c.toNat ∧ c.toNat ≤ 122 := by simpa [chB] using h1
      refine ⟨by simp, h3, (low_iff c).2 h6, trimS_all fun x hx => ?_⟩
      rcases List.mem_cons.1 hx with e | e
      · rw [e]; exact (lowDig_iff c).2 (.inl h6)
      · exact h2 x e
theorem chs_step {i : Nat} {l : List UInt8} (h : i < l.length) : chsB i (l.drop i) = (chB i l[i] && chsB (i + 1) (l.drop (i + 1))) := by
  rw [List.drop_eq_getElem_cons h]
  rfl

set_option maxRecDepth 100000 in
set_option maxHeartbeats 4000000 in
theorem refname_any (s : ByteArray) (hs : s.size ≤ 9223372036854775807) (w : World) :
    Calls Tryz.prog 11 #[.string s] w fun e w' => e = .returned (.bool (nameB (bl s))) ∧ w = w' := by
  obtain ⟨R, hR⟩ : ∃ R, R = nameB (bl s) := ⟨_, rfl⟩
  have hR2 := hR
  rw [name_ref, bl_length] at hR2
  rw [← hR]
  have HR := hide hR2
  clear hR hR2
  go_enter Tryz.func11, Tryz.ntmps11
  go_wp2_with fail
  go_loopw [7] (fun iv wr => ∃ I : Nat, iv = .int .i64 (I : Int) ∧ I ≤ s.size ∧ chsB 0 (bl s) = chsB I ((bl s).drop I) ∧ w = wr) (fun iv _ => s.size - (intOf iv).toNat)
  case atStart => exact ⟨0, rfl, by omega, rfl, rfl⟩
  case round =>
    obtain ⟨I, rfl, hI, hc, rfl⟩ := hrel
    by_cases hlt : I < s.size
    · have d0 : decide (I < s.size) = true := by simpa using hlt
      have hIl : I < (bl s).length := by rw [bl_length]; exact hlt
      have hbl : (bl s)[I] = s[I] := rfl
      rw [chs_step hIl, hbl] at hc
      have HC := hide hc
      have h256 : s[I].toNat < 256 := UInt8.toNat_lt _
      clear hc hbl
      by_cases hp1 : 97 ≤ s[I].toNat
      · skip
        have p1 : decide (97 ≤ s[I].toNat) = true := by simpa using hp1
        have p1' : decide ((97 : Int) ≤ ((s[I].toNat : Nat) : Int)) = true := by simp; omega
        by_cases hp2 : s[I].toNat ≤ 122
        · skip
          have p2 : decide (s[I].toNat ≤ 122) = true := by simpa using hp2
          have p2' : decide (((s[I].toNat : Nat) : Int) ≤ (122 : Int)) = true := by simp; omega
          have hok : chB I s[I] = true := by unfold chB; simp only [Bool.or_eq_true, Bool.and_eq_true, decide_eq_true_eq, Bool.or_eq_false_iff, Bool.and_eq_false_imp, decide_eq_false_iff_not]; omega
          have HOK := hide hok
          clear hok
          (try clear hI0)
          go_wp2_with fail
          all_goals (first | (exact ⟨⟨I + 1, by go_num, by omega, by rw [HC.out, HOK.out]; rfl, trivial⟩, by simp [intOf]; omega⟩) | (exfalso; simp_all; done) | (exfalso; simp_all; omega) | (exfalso; simp only [Bool.not_eq_false', decide_eq_true_eq, Bool.not_eq_true', decide_eq_false_iff_not] at *; omega))
        · skip
          have p2 : decide (s[I].toNat ≤ 122) = false := by simpa using hp2
          have p2' : decide (((s[I].toNat : Nat) : Int) ≤ (122 : Int)) = false := by simp; omega
          by_cases hI0 : I = 0
          · have z0 : ((I : Int) == 0) = true := by simp; omega
            have z0' : (I == 0) = true := by simpa using hI0
            have hok : chB I s[I] = false := by unfold chB; simp only [Bool.or_eq_true, Bool.and_eq_true, decide_eq_true_eq, Bool.or_eq_false_iff, Bool.and_eq_false_imp, decide_eq_false_iff_not]; omega
            have HOK := hide hok
            clear hok
            (try clear hI0)
            go_wp2_with fail
            all_goals (first | (go_ret; exact ⟨by rw [HR.out, HC.out, HOK.out]; rfl, rfl⟩) | (exfalso; simp_all; done) | (exfalso; simp_all; omega) | (exfalso; simp only [Bool.not_eq_false', decide_eq_true_eq, Bool.not_eq_true', decide_eq_false_iff_not] at *; omega))
          · have z0 : ((I : Int) == 0) = false := by simp; omega
            have z0' : (I == 0) = false := by simpa using hI0
            by_cases hp3 : 48 ≤ s[I].toNat
            · skip
              have p3 : decide (48 ≤ s[I].toNat) = true := by simpa using hp3
              have p3' : decide ((48 : Int) ≤ ((s[I].toNat : Nat) : Int)) = true := by simp; omega
              by_cases hp4 : s[I].toNat ≤ 57
              · skip
                have p4 : decide (s[I].toNat ≤ 57) = true := by simpa using hp4
                have p4' : decide (((s[I].toNat : Nat) : Int) ≤ (57 : Int)) = true := by simp; omega
                have hok : chB I s[I] = true := by unfold chB; simp only [Bool.or_eq_true, Bool.and_eq_true, decide_eq_true_eq, Bool.or_eq_false_iff, Bool.and_eq_false_imp, decide_eq_false_iff_not]; omega
                have HOK := hide hok
                clear hok
                (try clear hI0)
                go_wp2_with fail
                all_goals (first | (exact ⟨⟨I + 1, by go_num, by omega, by rw [HC.out, HOK.out]; rfl, trivial⟩, by simp [intOf]; omega⟩) | (exfalso; simp_all; done) | (exfalso; simp_all; omega) | (exfalso; simp only [Bool.not_eq_false', decide_eq_true_eq, Bool.not_eq_true', decide_eq_false_iff_not] at *; omega))
              · skip
                have p4 : decide (s[I].toNat ≤ 57) = false := by simpa using hp4
                have p4' : decide (((s[I].toNat : Nat) : Int) ≤ (57 : Int)) = false := by simp; omega
                have hok : chB I s[I] = false := by unfold chB; simp only [Bool.or_eq_true, Bool.and_eq_true, decide_eq_true_eq, Bool.or_eq_false_iff, Bool.and_eq_false_imp, decide_eq_false_iff_not]; omega
                have HOK := hide hok
                clear hok
                (try clear hI0)
                go_wp2_with fail
                all_goals (first | (go_ret; exact ⟨by rw [HR.out, HC.out, HOK.out]; rfl, rfl⟩) | (exfalso; simp_all; done) | (exfalso; simp_all; omega) | (exfalso; simp only [Bool.not_eq_false', decide_eq_true_eq, Bool.not_eq_true', decide_eq_false_iff_not] at *; omega))
            · skip
              have p3 : decide (48 ≤ s[I].toNat) = false := by simpa using hp3
              have p3' : decide ((48 : Int) ≤ ((s[I].toNat : Nat) : Int)) = false := by simp; omega
              have hok : chB I s[I] = false := by unfold chB; simp only [Bool.or_eq_true, Bool.and_eq_true, decide_eq_true_eq, Bool.or_eq_false_iff, Bool.and_eq_false_imp, decide_eq_false_iff_not]; omega
              have HOK := hide hok
              clear hok
              (try clear hI0)
              go_wp2_with fail
              all_goals (first | (go_ret; exact ⟨by rw [HR.out, HC.out, HOK.out]; rfl, rfl⟩) | (exfalso; simp_all; done) | (exfalso; simp_all; omega) | (exfalso; simp only [Bool.not_eq_false', decide_eq_true_eq, Bool.not_eq_true', decide_eq_false_iff_not] at *; omega))
      · skip
        have p1 : decide (97 ≤ s[I].toNat) = false := by simpa using hp1
        have p1' : decide ((97 : Int) ≤ ((s[I].toNat : Nat) : Int)) = false := by simp; omega
        by_cases hI0 : I = 0
        · have z0 : ((I : Int) == 0) = true := by simp; omega
          have z0' : (I == 0) = true := by simpa using hI0
          have hok : chB I s[I] = false := by unfold chB; simp only [Bool.or_eq_true, Bool.and_eq_true, decide_eq_true_eq, Bool.or_eq_false_iff, Bool.and_eq_false_imp, decide_eq_false_iff_not]; omega
          have HOK := hide hok
          clear hok
          (try clear hI0)
          go_wp2_with fail
          all_goals (first | (go_ret; exact ⟨by rw [HR.out, HC.out, HOK.out]; rfl, rfl⟩) | (exfalso; simp_all; done) | (exfalso; simp_all; omega) | (exfalso; simp only [Bool.not_eq_false', decide_eq_true_eq, Bool.not_eq_true', decide_eq_false_iff_not] at *; omega))
        · have z0 : ((I : Int) == 0) = false := by simp; omega
          have z0' : (I == 0) = false := by simpa using hI0
          by_cases hp3 : 48 ≤ s[I].toNat
          · skip
            have p3 : decide (48 ≤ s[I].toNat) = true := by simpa using hp3
            have p3' : decide ((48 : Int) ≤ ((s[I].toNat : Nat) : Int)) = true := by simp; omega
            by_cases hp4 : s[I].toNat ≤ 57
            · skip
              have p4 : decide (s[I].toNat ≤ 57) = true := by simpa using hp4
              have p4' : decide (((s[I].toNat : Nat) : Int) ≤ (57 : Int)) = true := by simp; omega
              have hok : chB I s[I] = true := by unfold chB; simp only [Bool.or_eq_true, Bool.and_eq_true, decide_eq_true_eq, Bool.or_eq_false_iff, Bool.and_eq_false_imp, decide_eq_false_iff_not]; omega
              have HOK := hide hok
              clear hok
              (try clear hI0)
              go_wp2_with fail
              all_goals (first | (exact ⟨⟨I + 1, by go_num, by omega, by rw [HC.out, HOK.out]; rfl, trivial⟩, by simp [intOf]; omega⟩) | (exfalso; simp_all; done) | (exfalso; simp_all; omega) | (exfalso; simp only [Bool.not_eq_false', decide_eq_true_eq, Bool.not_eq_true', decide_eq_false_iff_not] at *; omega))
            · skip
              have p4 : decide (s[I].toNat ≤ 57) = false := by simpa using hp4
              have p4' : decide (((s[I].toNat : Nat) : Int) ≤ (57 : Int)) = false := by simp; omega
              have hok : chB I s[I] = false := by unfold chB; simp only [Bool.or_eq_true, Bool.and_eq_true, decide_eq_true_eq, Bool.or_eq_false_iff, Bool.and_eq_false_imp, decide_eq_false_iff_not]; omega
              have HOK := hide hok
              clear hok
              (try clear hI0)
              go_wp2_with fail
              all_goals (first | (go_ret; exact ⟨by rw [HR.out, HC.out, HOK.out]; rfl, rfl⟩) | (exfalso; simp_all; done) | (exfalso; simp_all; omega) | (exfalso; simp only [Bool.not_eq_false', decide_eq_true_eq, Bool.not_eq_true', decide_eq_false_iff_not] at *; omega))
          · skip
            have p3 : decide (48 ≤ s[I].toNat) = false := by simpa using hp3
            have p3' : decide ((48 : Int) ≤ ((s[I].toNat : Nat) : Int)) = false := by simp; omega
            have hok : chB I s[I] = false := by unfold chB; simp only [Bool.or_eq_true, Bool.and_eq_true, decide_eq_true_eq, Bool.or_eq_false_iff, Bool.and_eq_false_imp, decide_eq_false_iff_not]; omega
            have HOK := hide hok
            clear hok
            (try clear hI0)
            go_wp2_with fail
            all_goals (first | (go_ret; exact ⟨by rw [HR.out, HC.out, HOK.out]; rfl, rfl⟩) | (exfalso; simp_all; done) | (exfalso; simp_all; omega) | (exfalso; simp only [Bool.not_eq_false', decide_eq_true_eq, Bool.not_eq_true', decide_eq_false_iff_not] at *; omega))
    · obtain rfl : I = s.size := by omega
      have d0 : decide (s.size < s.size) = false := by simp
      rw [List.drop_eq_nil_of_le (by rw [bl_length]; exact Nat.le_refl _)] at hc
      have hR3 : R = decide ((1 : Int) ≤ (s.size : Int) ∧ (s.size : Int) ≤ 10) := by
        rw [HR.out, hc]
        simp only [chsB, Bool.true_and, decide_eq_decide]
        omega
      have HR3 := hide hR3
      clear hc hR3
      go_wp2_with (go_at_call 24; refine (in_any _ _ _ _).mono ?_; rintro e w1 ⟨rfl, rfl⟩; rw [← HR3.out])
      go_ret
      exact ⟨rfl, rfl⟩
end Go.Proofs.YtmligbaalbbgiabGreatDoor

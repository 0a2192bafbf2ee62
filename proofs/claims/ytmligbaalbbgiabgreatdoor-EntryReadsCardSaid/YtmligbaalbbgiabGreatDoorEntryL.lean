/- Texts cut at a byte, and numerals: plain lists of bytes. It states nothing about the program. No condition. -/
import Derived.Lib.SplitLaws
import Derived.Lib.AtoiAll
import Derived.Lib.ItoaMem
import Derived.Lib.Strings
namespace Go.Proofs.YtmligbaalbbgiabGreatDoor

/-- A text cut at each of one byte. -/
def cutL (c : UInt8) : List UInt8 → List (List UInt8)
  | [] => [[]]
  | x :: r => if x = c then [] :: cutL c r else match cutL c r with
    | [] => [[x]]
    | a :: t => (x :: a) :: t
theorem cutL_ne (c : UInt8) (l : List UInt8) : cutL c l ≠ [] := by
  cases l with
  | nil => simp [cutL]
  | cons x r =>
    unfold cutL
    split
    · simp
    · split <;> simp
theorem cutL_none (c : UInt8) (l : List UInt8) (h : c ∉ l) : cutL c l = [l] := by
  induction l with
  | nil => rfl
  | cons x r ih =>
    have h1 : ¬ x = c := fun e => h (by rw [e]; exact List.mem_cons_self ..)
    have h2 := ih (fun e => h (List.mem_cons_of_mem _ e))
    unfold cutL
    rw [if_neg h1, h2]
theorem cutL_app (c : UInt8) (a b : List UInt8) (h : c ∉ a) : cutL c (a ++ c :: b) = a :: cutL c b := by
  induction a with
  | nil => simp [cutL]
  | cons x r ih =>
    have h1 : ¬ x = c := fun e => h (by rw [e]; exact List.mem_cons_self ..)
    have h2 := ih (fun e => h (List.mem_cons_of_mem _ e))
    rw [List.cons_append, cutL.eq_2, if_neg h1, h2]
theorem cutL_length (c : UInt8) (l : List UInt8) : (cutL c l).length = l.count c + 1 := by
  induction l with
  | nil => rfl
  | cons x r ih =>
    unfold cutL
    by_cases h : x = c
    · subst h
      rw [if_pos rfl]
      simp [ih]
    · rw [if_neg h, List.count_cons_of_ne (by simpa using h)]
      cases hc : cutL c r with
      | nil => exact absurd hc (cutL_ne c r)
      | cons a t =>
        rw [hc] at ih
        simpa using ih
/-- By the first one. -/
theorem cutL_index_none (c : UInt8) (l : List UInt8) (h : Lib.index l [c] = -1) : cutL c l = [l] := by
  apply cutL_none
  intro hm
  induction l with
  | nil => cases hm
  | cons x r ih =>
    have hge := Lib.index_ge r [c]
    rw [Lib.index] at h
    by_cases hx : x = c
    · subst hx
      simp [List.isPrefixOf] at h
    · have hp : ([c] : List UInt8).isPrefixOf (x :: r) = false := by simp [List.isPrefixOf, Ne.symm hx]
      rw [hp] at h
      rcases List.mem_cons.1 hm with e | e
      · exact hx e.symm
      · refine ih ?_ e
        by_cases hr : Lib.index r [c] = -1
        · exact hr
        · simp [hr] at h
          omega
theorem cutL_index_some (c : UInt8) (l : List UInt8) (i : Nat) (h : Lib.index l [c] = i) : cutL c l = l.take i :: cutL c (l.drop (i + 1)) := by
  induction l generalizing i with
  | nil =>
    simp [Lib.index] at h
  | cons x r ih =>
    have hge := Lib.index_ge r [c]
    rw [Lib.index] at h
    by_cases hx : x = c
    · subst hx
      simp [List.isPrefixOf] at h
      obtain rfl : i = 0 := by omega
      simp [cutL]
    · have hp : ([c] : List UInt8).isPrefixOf (x :: r) = false := by simp [List.isPrefixOf, Ne.symm hx]
      rw [hp] at h
      by_cases hr : Lib.index r [c] = -1
      · simp [hr] at h
      · have hr' : ¬ (Lib.index r [c] == -1) = true := fun e => hr (beq_iff_eq.1 e)
        simp only [Bool.false_eq_true, if_false, hr'] at h
        obtain ⟨j, rfl⟩ : ∃ j, i = j + 1 := ⟨i - 1, by omega⟩
        have := ih j (by omega)
        rw [cutL.eq_2, if_neg hx, this]
        simp
theorem index_lt (c : UInt8) (l : List UInt8) (i : Nat) (h : Lib.index l [c] = i) : i < l.length := by
  induction l generalizing i with
  | nil => simp [Lib.index] at h
  | cons x r ih =>
    have hge := Lib.index_ge r [c]
    rw [Lib.index] at h
    by_cases hx : x = c
    · subst hx
      simp [List.isPrefixOf] at h
      simp
      omega
    · have hp : ([c] : List UInt8).isPrefixOf (x :: r) = false := by simp [List.isPrefixOf, Ne.symm hx]
      rw [hp] at h
      by_cases hr : Lib.index r [c] = -1
      · simp [hr] at h
      · have hr' : ¬ (Lib.index r [c] == -1) = true := fun e => hr (beq_iff_eq.1 e)
        simp only [Bool.false_eq_true, if_false, hr'] at h
        have := ih (i - 1) (by omega)
        simp
        omega
theorem splitK_cut (c : UInt8) (l : List UInt8) : Lib.splitK [c] 0 (Lib.count l [c]) l = cutL c l := by
  obtain ⟨n, hn⟩ : ∃ n, n = Lib.count l [c] := ⟨_, rfl⟩
  rw [← hn]
  induction n generalizing l with
  | zero =>
    rw [Lib.count_one] at hn
    rw [cutL_none c l (fun h => by have := List.count_pos_iff.2 h; omega)]
    rfl
  | succ n ih =>
    have hix : Lib.index l [c] ≠ -1 := fun h => by
      rw [Lib.count_miss h] at hn
      omega
    have hge := Lib.index_ge l [c]
    obtain ⟨i, hi⟩ : ∃ i : Nat, Lib.index l [c] = i := ⟨(Lib.index l [c]).toNat, by omega⟩
    have hc := Lib.count_hit (by simp : ([c] : List UInt8) ≠ []) hi
    unfold Lib.splitK
    rw [if_neg (fun e => hix (beq_iff_eq.1 e)), hi]
    simp only [Int.toNat_natCast, Nat.add_zero, List.length_cons, List.length_nil]
    rw [cutL_index_some c l i hi]
    congr 1
    refine ih _ ?_
    simp only [List.length_cons, List.length_nil] at hc
    omega
theorem cutL_snoc (c : UInt8) (l : List UInt8) : cutL c (l ++ [c]) = cutL c l ++ [[]] := by
  induction l with
  | nil => simp [cutL]
  | cons x r ih =>
    rw [List.cons_append]
    unfold cutL
    by_cases h : x = c
    · rw [if_pos h, if_pos h, ih]; rfl
    · rw [if_neg h, if_neg h, ih]
      cases hc : cutL c r with
      | nil => exact absurd hc (cutL_ne c r)
      | cons a t => rfl

/-- How a numeral ends. -/
theorem num_cases (e : Lib.NumEnd Int) : (∃ v, e = .ok v) ∨ e = Lib.atoiAll [] ∨ e = .range := by
  rcases e with v | _ | _
  · exact .inl ⟨v, rfl⟩
  · exact .inr (.inl rfl)
  · exact .inr (.inr rfl)
/-! Numbers. -/
theorem dec_digits (u : Nat) : ∀ c ∈ Lib.decDigits u, 48 ≤ c.toNat ∧ c.toNat ≤ 57 := by
  induction u using Nat.strongRecOn with
  | _ u ih =>
    intro c hc
    rw [Lib.decDigits] at hc
    split at hc
    · obtain rfl := List.mem_singleton.1 hc
      simp
      omega
    · rcases List.mem_append.1 hc with h | h
      · exact ih (u / 10) (by omega) c h
      · obtain rfl := List.mem_singleton.1 h
        simp
        omega
theorem dec_ne (u : Nat) : Lib.decDigits u ≠ [] := by
  rw [Lib.decDigits]
  split <;> simp
theorem parse_snoc (l : List UInt8) (acc v : Nat) (c : UInt8) (h : Lib.parseUint10 acc l = .ok v) : Lib.parseUint10 acc (l ++ [c]) = Lib.parseUint10 v [c] := by
  induction l generalizing acc with
  | nil =>
    simp only [Lib.parseUint10] at h
    injection h with h
    rw [h]
    rfl
  | cons x r ih =>
    rw [List.cons_append]
    unfold Lib.parseUint10 at h ⊢
    split at h
    · split at h
      · cases h
      · split at h
        · cases h
        · rename_i h1 h2 h3
          rw [if_pos h1, if_neg h2, if_neg h3]
          exact ih _ h
    · cases h
theorem parse_dec (u : Nat) (hu : u ≤ 1000000000) : Lib.parseUint10 0 (Lib.decDigits u) = .ok u := by
  induction u using Nat.strongRecOn with
  | _ u ih =>
    rw [Lib.decDigits]
    split
    · rename_i h
      have e : (UInt8.ofNat (48 + u)).toNat = 48 + u := by simp; omega
      simp only [Lib.parseUint10, e]
      rw [if_pos (by omega), if_neg (by omega), if_neg (by omega)]
      congr 1
      omega
    · rename_i h
      rw [parse_snoc _ _ _ _ (ih (u / 10) (by omega) (by omega))]
      have e : (UInt8.ofNat (48 + u % 10)).toNat = 48 + u % 10 := by simp; omega
      simp only [Lib.parseUint10, e]
      rw [if_pos (by omega), if_neg (by omega), if_neg (by omega)]
      congr 1
      omega
theorem itoa_digits (n : Int) (h : 0 ≤ n) : ∀ c ∈ Lib.itoa n, 48 ≤ c.toNat ∧ c.toNat ≤ 57 := by
  unfold Lib.itoa
  rw [if_neg (by omega)]
  exact dec_digits _
theorem atoi_itoa (n : Int) (h0 : 0 ≤ n) (h1 : n ≤ 1000000000) : Lib.atoiAll (Lib.itoa n) = .ok n := by
  unfold Lib.itoa
  rw [if_neg (by omega)]
  have hd := dec_digits n.toNat
  have hp := parse_dec n.toNat (by omega)
  cases hl : Lib.decDigits n.toNat with
  | nil => exact absurd hl (dec_ne _)
  | cons c r =>
    have hc := hd c (by rw [hl]; exact List.mem_cons_self ..)
    rw [hl] at hp
    unfold Lib.atoiAll
    simp only
    rw [if_neg (by omega)]
    unfold Lib.parseMag
    rw [if_neg (by simp), hp]
    simp only
    rw [if_neg (by omega), if_neg (by omega), if_neg (by omega)]
    congr 1
    omega
theorem itoa_len (n : Int) (h0 : 0 ≤ n) (k : Nat) (h1 : n < 10 ^ k) (hk : 1 ≤ k) : (Lib.itoa n).length ≤ k := by
  unfold Lib.itoa
  rw [if_neg (by omega)]
  obtain ⟨u, rfl⟩ := Int.eq_ofNat_of_zero_le h0
  have h2 : u < 10 ^ k := by exact_mod_cast h1
  clear h1 h0
  simp only [Int.toNat_natCast]
  induction k generalizing u with
  | zero => omega
  | succ k ih =>
    rw [Lib.decDigits]
    split
    · simp
    · rename_i h
      rw [List.length_append]
      simp only [List.length_cons, List.length_nil]
      by_cases hk0 : k = 0
      · subst hk0
        simp at h2
        omega
      · have := ih (by omega) (u / 10) (by rw [Nat.pow_succ] at h2; omega)
        omega
end Go.Proofs.YtmligbaalbbgiabGreatDoor

/- The reference's block of the stream, as plain functions: twenty half rounds are ten rounds; its sixteen first words are the program's. No condition. -/
import Derived.Test.YtmligbaalbbgiabDoorStreamS
import Derived.Test.YtmligbaalbbgiabDoorRefStream2
namespace Go.Proofs.YtmligbaalbbgiabDoor

/-- The first i quarter rounds of half round k. -/
def halfUp (k i : Nat) (l : List Nat) : List Nat := if k % 2 = 1 then diaR i l else colR i l
def halves : Nat → List Nat → List Nat
  | 0, l => l
  | k + 1, l => halfUp k 4 (halves k l)
theorem halfUp_length (k i : Nat) (l : List Nat) : (halfUp k i l).length = l.length := by
  unfold halfUp
  split
  · exact diaR_length _ _
  · exact colR_length _ _
theorem halfUp_words (k i : Nat) {l : List Nat} (h : Words32 l) : Words32 (halfUp k i l) := by
  unfold halfUp
  split
  · exact diaR_words _ h
  · exact colR_words _ h
theorem halves_length (k : Nat) (l : List Nat) : (halves k l).length = l.length := by
  induction k with
  | zero => rfl
  | succ k ih => rw [halves, halfUp_length, ih]
theorem halves_words (k : Nat) {l : List Nat} (h : Words32 l) : Words32 (halves k l) := by
  induction k with
  | zero => exact h
  | succ k ih => exact halfUp_words _ _ ih
theorem halves_rounds (k : Nat) (l : List Nat) : halves (2 * k) l = rounds k l := by
  induction k with
  | zero => rfl
  | succ k ih =>
    rw [show 2 * (k + 1) = 2 * k + 1 + 1 from by omega, halves, halves, ih, rounds]
    unfold halfUp
    rw [if_neg (by omega : ¬ 2 * k % 2 = 1), if_pos (by omega : (2 * k + 1) % 2 = 1)]
def expandT : ByteArray := { data := #[101, 120, 112, 97, 110, 100, 32, 51, 50, 45, 98, 121, 116, 101, 32, 107] }
/-- The sixteen words as the reference lays them. -/
def refStart (key nonce : ByteArray) (n : Nat) : List Nat := wordsL (bl (expandT ++ key)) 12 ++ [n] ++ wordsL (bl nonce) 3
theorem refStart_eq (key nonce : ByteArray) (n : Nat) : refStart key nonce n = start16 (bl key) (bl nonce) n := by
  have h : bl (expandT ++ key) = [101, 120, 112, 97, 110, 100, 32, 51, 50, 45, 98, 121, 116, 101, 32, 107] ++ bl key := by
    simp [bl, expandT]
  unfold refStart
  rw [h]
  generalize bl key = K
  generalize bl nonce = N
  have c0 : le4 (List.drop (4 * 0) ([101, 120, 112, 97, 110, 100, 32, 51, 50, 45, 98, 121, 116, 101, 32, 107] ++ K)) = 1634760805 := by simp [le4, byteAt]
  have c1 : le4 (List.drop (4 * 1) ([101, 120, 112, 97, 110, 100, 32, 51, 50, 45, 98, 121, 116, 101, 32, 107] ++ K)) = 857760878 := by simp [le4, byteAt]
  have c2 : le4 (List.drop (4 * 2) ([101, 120, 112, 97, 110, 100, 32, 51, 50, 45, 98, 121, 116, 101, 32, 107] ++ K)) = 2036477234 := by simp [le4, byteAt]
  have c3 : le4 (List.drop (4 * 3) ([101, 120, 112, 97, 110, 100, 32, 51, 50, 45, 98, 121, 116, 101, 32, 107] ++ K)) = 1797285236 := by simp [le4, byteAt]
  have d : ∀ i, List.drop (4 * (i + 4)) ([101, 120, 112, 97, 110, 100, 32, 51, 50, 45, 98, 121, 116, 101, 32, 107] ++ K) = List.drop (4 * i) K := by
    intro i
    rw [List.drop_append, List.drop_eq_nil_of_le (by simp; omega)]
    simp only [List.nil_append, List.length_cons, List.length_nil]
    congr 1
  generalize [101, 120, 112, 97, 110, 100, 32, 51, 50, 45, 98, 121, 116, 101, 32, 107] ++ K = L at c0 c1 c2 c3 d ⊢
  have d0 := d 0
  have d1 := d 1
  have d2 := d 2
  have d3 := d 3
  have d4 := d 4
  have d5 := d 5
  have d6 := d 6
  have d7 := d 7
  simp only [Nat.reduceAdd, Nat.zero_add] at d0 d1 d2 d3 d4 d5 d6 d7
  simp only [wordsL, c0, c1, c2, c3, d0, d1, d2, d3, d4, d5, d6, d7, List.nil_append, List.cons_append, start16, fillW, init0, List.set_cons_succ, List.set_cons_zero, Nat.reduceAdd, Nat.add_zero]
theorem rowOf {w : World} {base T g n cap : Nat} {S : List Nat} (h : w.ownsRow base T 1 (.slice (some ⟨g, 0, none⟩) n cap) n (wordsV S)) : WRow w g S := by
  have hc := h.cells (g := g) rfl
  refine ⟨fun i hi => ?_, fun i hi => ?_⟩
  · have h1 := hc i (wv (nth S i)) (by
      have e : nth S i = S[i] := by simp [nth, List.getD, hi]
      rw [e]
      simp [wordsV, hi])
    rw [show (⟨g, 0, none⟩ : Addr).add i = ⟨g, i, none⟩ from by unfold Addr.add; split <;> simp_all] at h1
    exact h1
  · rcases h.2 with ⟨h1, _⟩ | ⟨g', cap', cur, h1, _, hg, _⟩
    · cases h1
    · cases h1
      unfold World.frozen?
      simp [hg]
end Go.Proofs.YtmligbaalbbgiabDoor

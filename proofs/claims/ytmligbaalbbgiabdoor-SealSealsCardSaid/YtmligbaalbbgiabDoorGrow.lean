/- A slice whose cells the call may write on, said of its cells alone (a slice of a text's bytes has a frozen range behind its row, so it is no row of the elder kind), and append onto it. No condition. -/
import Derived.Test.YtmligbaalbbgiabDoorBase
import Derived.ArgAppend
namespace Go.Proofs.YtmligbaalbbgiabDoor
open Go.RowKit

/-- v is a slice of n elements, of one cell each, the cells xs; its block lies at B or behind it; it may be written on up to its capacity. -/
def Grow (w : World) (B : Nat) (v : Value) (n : Nat) (xs : List Value) : Prop :=
  ∃ g cap, v = .slice (some ⟨g, 0, none⟩) n cap ∧ B ≤ g ∧ g < w.heap.size ∧ n ≤ cap ∧ xs.length = n ∧ (∀ j u, xs[j]? = some u → w.cell? ⟨g, j, none⟩ = some u)
    ∧ (∀ j, j < cap → (w.cell? ⟨g, j, none⟩).isSome = true ∧ w.frozen? ⟨g, j, none⟩ = false)

theorem grownBy_setCells (g : Nat) : ∀ (vs : List Value) (o : Nat) (w : World), w.grownBy (w.setCells g o vs) (some g)
  | [], _, w => ⟨rfl, rfl, rfl, Nat.le_refl _, fun _ _ _ => rfl⟩
  | v :: vs, o, w => by
    have h := grownBy_setCells g vs (o + 1) (w.setCell ⟨g, o, none⟩ v)
    have h0 : w.grownBy (w.setCell ⟨g, o, none⟩ v) (some g) := grownBy_setCell (w := w) ⟨rfl, rfl, rfl, Nat.le_refl _, fun _ _ _ => rfl⟩ o v
    exact h0.trans h
theorem Grow.of_block {w w' : World} {B n : Nat} {v : Value} {xs : List Value} (h : Grow w B v n xs) (hs : w.heap.size ≤ w'.heap.size) (hb : ∀ g, v.ownBlock = some g → w'.heap[g]? = w.heap[g]?) : Grow w' B v n xs := by
  obtain ⟨g, cap, rfl, h1, h2, h3, h4, h5, h6⟩ := h
  have hb' := hb g rfl
  refine ⟨g, cap, rfl, h1, by omega, h3, h4, fun j u hu => (World.cell?_of_block (w := w) (w' := w') (a := ⟨g, j, none⟩) hb').trans (h5 j u hu), fun j hj => ?_⟩
  rw [World.cell?_of_block (w := w) (w' := w') (a := ⟨g, j, none⟩) hb', World.frozen?_of_block (w := w) (w' := w') (a := ⟨g, j, none⟩) hb']
  exact h6 j hj
theorem Grow.lt {w : World} {B n : Nat} {v : Value} {xs : List Value} (h : Grow w B v n xs) : ∀ k, v.ownBlock = some k → B ≤ k ∧ k < w.heap.size := by
  obtain ⟨g, cap, rfl, h1, h2, _⟩ := h
  intro k hk
  obtain rfl : g = k := by simpa [Value.ownBlock] using hk
  exact ⟨h1, h2⟩
theorem Grow.alloc {w : World} {B n : Nat} {v : Value} {xs : List Value} (h : Grow w B v n xs) (o : Obj) : Grow (w.alloc o) B v n xs :=
  h.of_block (by simp) (fun g hg => Below.heap_alloc w o g (h.lt g hg).2)
theorem Grow.drewN {w : World} {B n : Nat} {v : Value} {xs : List Value} (h : Grow w B v n xs) (k : Nat) : Grow (w.drewN k) B v n xs := h
theorem Grow.kept {w w' : World} {B n : Nat} {v : Value} {xs : List Value} {row : Option Nat} (h : Grow w B v n xs) (hg : w.grownBy w' row) (hne : v.ownBlock ≠ row) : Grow w' B v n xs :=
  h.of_block hg.size (fun g hb => hg.block g (h.lt g hb).2 (by rw [← hb]; exact hne))
theorem Grow.of_own {w : World} {base B e n : Nat} {v : Value} {xs : List Value} (h : w.ownsRow base e 1 v (n + 1) xs) (hB : B ≤ base) : Grow w B v (n + 1) xs := by
  have hl := h.1
  have hlt := h.lt
  rcases h.2 with ⟨_, h0⟩ | ⟨g, cap, cur, rfl, hb, hg, hn, hc, hs, ht⟩
  · omega
  · refine ⟨g, cap, rfl, by omega, (hlt g rfl).2, hn, by omega, ?_, fun j hj => ?_⟩
    · intro j u hu
      have h1 := h.cells (g := g) rfl j u hu
      rwa [show (⟨g, 0, none⟩ : Addr).add j = ⟨g, j, none⟩ from by unfold Addr.add; split <;> simp_all] at h1
    · rw [cell_of_row w g j cur e (0, 0) hg]
      have hj2 : j < cur.size := by omega
      exact ⟨by simp [hj2], by simp [World.frozen?, hg]⟩

/-- append of at least one element onto such a slice. -/
theorem wpList_append_grow {P : Program} (w : World) {ops : Array Oper} {rest : List Oper} {o : Oper} {a : Act} {Q : Exit → Act → World → Prop}
    (hg : o.guard = none) (s x : Operand) (t : TypeId) (hop : o.op = Op.call { callee := Callee.builtin Builtin.append, args := #[s, x], argTypes := #[t, t] })
    (e : TypeId) (i : TypeInfo) (z : Value) (bytes : Nat) (h1 : P.underlying t = some (.slice e)) (h2 : P.info? e = some i) (h3 : i.zero = some z) (h4 : i.size = 1) (h5 : i.bytes = bytes) (h6 : z.cells.size = 1)
    (B : Nat) (v : Value) (n : Nat) (xs : List Value) (hs : a.eval s = v) (hv : Grow w B v n xs)
    (ad : Addr) (m c : Nat) (news : List Value) (hx : a.eval x = .slice (some ad) (m + 1) c) (hn : news.length = m + 1) (hc : ∀ j u, news[j]? = some u → w.cell? (ad.add j) = some u) (h1c : ∀ u ∈ news, u.oneCell' = true)
    (b1 : n + (m + 1) ≤ maxLen) (b2 : (n + (m + 1)) * bytes ≤ 140737488355328) (hB : B ≤ w.heap.size)
    (hK : ∀ v' w', Grow w' B v' (n + (m + 1)) (xs ++ news) → w.grownBy w' v.ownBlock → wpList P ops Q rest (a.put o.dst v') w') :
    wpList P ops Q (o :: rest) a w := by
  obtain ⟨g, cap, rfl, g1, g2, g3, g4, g5, g6⟩ := hv
  refine wpList_append_arg w hg s x t hop e i z 1 bytes h1 h2 h3 h4 h5 h6 (by omega) g 0 n cap xs hs (by omega) (fun j u hu => by rw [Nat.zero_add]; exact g5 j u hu) ad (m + 1) c news hx (by omega) hc h1c ?_ b1 b2 ?_ ?_
  · intro hroom j hj
    rw [Nat.zero_add, Nat.mul_one]
    exact g6 (n + j) (by omega)
  · intro hroom
    rw [Nat.zero_add, Nat.mul_one]
    refine hK _ _ ⟨g, cap, rfl, g1, ?_, hroom, by rw [List.length_append]; omega, ?_, ?_⟩ (grownBy_setCells g news n w)
    · exact Nat.lt_of_lt_of_le g2 (grownBy_setCells g news n w).size
    · intro j u hu
      by_cases hj : j < n
      · rw [World.cell?_setCells_out g news n w ⟨g, j, none⟩ (fun _ _ => .inl hj)]
        rw [List.getElem?_append_left (by omega)] at hu
        exact g5 j u hu
      · rw [List.getElem?_append_right (by omega)] at hu
        have hlt : j - xs.length < news.length := (List.getElem?_eq_some_iff.1 hu).1
        have h := World.cell?_setCells_in g news n w (fun k hk => (g6 (n + k) (by omega)).1) (j - n) (by omega)
        rw [show n + (j - n) = j from by omega] at h
        rw [h]
        obtain ⟨_, h9⟩ := List.getElem?_eq_some_iff.1 hu
        subst h9
        simp only [g4]
    · intro j hj
      rw [World.frozen?_setCells]
      refine ⟨?_, (g6 j hj).2⟩
      by_cases hin : n ≤ j ∧ j < n + news.length
      · have h := World.cell?_setCells_in g news n w (fun k hk => (g6 (n + k) (by omega)).1) (j - n) (by omega)
        rw [show n + (j - n) = j from by omega] at h
        rw [h]
        rfl
      · rw [World.cell?_setCells_out g news n w ⟨g, j, none⟩ (fun _ _ => by show j < n ∨ n + news.length ≤ j; omega)]
        exact (g6 j hj).1
  · intro _ v' w' hr hg'
    refine hK v' w' (Grow.of_own (n := n + m) hr hB) ⟨hg'.os, hg'.tape, hg'.output, hg'.size, fun k hk _ => hg'.block k hk (by simp)⟩
end Go.Proofs.YtmligbaalbbgiabDoor

/- The function entry.Parse, first part: what its loop keeps. It states nothing about the program. -/
import Derived.Test.YtmligbaalbbgiabGreatDoorSplitQ
import Derived.Test.YtmligbaalbbgiabGreatDoorEntryW
namespace Go.Proofs.YtmligbaalbbgiabGreatDoor
open Go.RowKit Go.Shelf

theorem addr_add (g o k : Nat) : (⟨g, o, none⟩ : Addr).add k = ⟨g, o + k, none⟩ := by
  unfold Addr.add
  split <;> simp_all
theorem own_ne {W : World} {b b' : Nat} {e e' : TypeId} {z z' k k' : Nat} {v v' : Value} {xs xs' : List Value} (h : W.ownsRow b e z v k xs) (h' : W.ownsRow b' e' z' v' k' xs') (hne : e ≠ e') : v.ownBlock = none ∨ v.ownBlock ≠ v'.ownBlock := by
  rcases h.2 with ⟨rfl, _⟩ | ⟨g, cap, cur, rfl, _, hg, _⟩
  · exact .inl rfl
  · refine .inr ?_
    rcases h'.2 with ⟨rfl, _⟩ | ⟨g', cap', cur', rfl, _, hg', _⟩
    · simp [Value.ownBlock]
    · intro he
      simp only [Value.ownBlock, Option.some.injEq] at he
      subst he
      rw [hg] at hg'
      injection hg' with hg'
      injection hg' with _ h2
      exact hne h2
theorem own_off {W : World} {b : Nat} {e : TypeId} {z k : Nat} {v : Value} {xs : List Value} (h : W.ownsRow b e z v k xs) {r : Nat} (hr : r < b) : v.ownBlock = none ∨ v.ownBlock ≠ some r := by
  cases hv : v.ownBlock with
  | none => exact .inl rfl
  | some q => exact .inr fun e => (by have := (h.lt q hv).1; injection e with e; omega)
theorem own_ne' {W : World} {b : Nat} {e : TypeId} {z k : Nat} {v : Value} {xs : List Value} (h : W.ownsRow b e z v k xs) {r : Nat} (hr : r < b) : some r ≠ v.ownBlock := fun e => by
  have := (h.lt r e.symm).1
  omega
theorem own_below {W W' : World} {b : Nat} {e : TypeId} {z k : Nat} {v : Value} {xs : List Value} (h : W.ownsRow b e z v k xs) (hb : Below W.heap.size W W') : W'.ownsRow b e z v k xs :=
  h.kept (row := none) ⟨hb.os, hb.tape, hb.output, hb.size, fun j hj _ => hb.block j hj⟩ (by cases v.ownBlock <;> simp)
def FileD.row (x : FileD) : List Value := x.vals.toList
def IB (W : World) (n₂ : Nat) (x : FileD) : Prop := W.ownsRow n₂ 3 1 (.slice x.cA x.cells.length x.cc) x.cells.length (x.cells.map fun k => Value.int .i64 k)
/-- Files that a slice owns, their cells too. -/
structure LR (W : World) (n₂ : Nat) (v : Value) (out : List FileD) : Prop where
  row : W.ownsRow n₂ 44 3 v out.length (out.flatMap FileD.row)
  cs : ∀ x ∈ out, IB W n₂ x
theorem LR.nil (W : World) (n₂ : Nat) : LR W n₂ (.slice none 0 0) [] := ⟨World.ownsRow_nil _ _ _ _, fun x hx => (by cases hx)⟩
theorem LR.below {W W' : World} {n₂ : Nat} {v : Value} {out : List FileD} (h : LR W n₂ v out) (hb : Below W.heap.size W W') : LR W' n₂ v out :=
  ⟨own_below h.row hb, fun x hx => own_below (h.cs x hx) hb⟩
theorem LR.off {W W' : World} {n₂ : Nat} {v : Value} {out : List FileD} (h : LR W n₂ v out) {row : Option Nat} (hg : W.grownBy W' row) (hr : ∀ r, row = some r → r < n₂ ∨ ∃ o, W.heap[r]? = some o ∧ o.isCells = false) : LR W' n₂ v out := by
  have key : ∀ {e z k : Nat} {u : Value} {xs : List Value}, W.ownsRow n₂ e z u k xs → W'.ownsRow n₂ e z u k xs := fun {e z k u xs} hu => by
    refine hu.kept hg ?_
    cases hub : u.ownBlock with
    | none => exact .inl rfl
    | some r =>
      refine .inr fun he => ?_
      rcases hr r he.symm with h1 | ⟨o, h1, h2⟩
      · have := (hu.lt r hub).1; omega
      · rcases hu.2 with ⟨rfl, _⟩ | ⟨g, cap, cur, rfl, _, hgg, _⟩
        · simp [Value.ownBlock] at hub
        · simp only [Value.ownBlock, Option.some.injEq] at hub
          subst hub
          rw [hgg] at h1
          injection h1 with h1
          subst h1
          cases h2
  exact ⟨key h.row, fun x hx => key (h.cs x hx)⟩
/-- One more. -/
theorem LR.snoc {W w1 : World} {n₂ : Nat} {v v' : Value} {out : List FileD} (h : LR W n₂ v out) {x : FileD} (hx : IB W n₂ x) (t : Obj) (hg : (W.alloc t).grownBy w1 v.ownBlock)
    (ho : w1.ownsRow n₂ 44 3 v' (out.length + 1) (out.flatMap FileD.row ++ x.row)) : LR w1 n₂ v' (out ++ [x]) := by
  refine ⟨by simpa using ho, fun y hy => ?_⟩
  have key : ∀ y, IB W n₂ y → IB w1 n₂ y := fun y hy => by
    have h1 : (W.alloc t).ownsRow n₂ 3 1 (.slice y.cA y.cells.length y.cc) y.cells.length (y.cells.map fun k => Value.int .i64 k) := World.ownsRow.alloc hy t
    exact h1.kept hg (own_ne h1 (World.ownsRow.alloc h.row t) (by decide))
  rcases List.mem_append.1 hy with e | e
  · exact key y (h.cs y e)
  · rw [List.mem_singleton.1 e]; exact key x hx
/-- They can be read. -/
theorem LR.files {W : World} {n₂ n c : Nat} {A : Option Addr} {out : List FileD} (h : LR W n₂ (.slice A n c) out) (wf : ∀ x ∈ out, x.name.size ≤ 9223372036854775807 ∧ x.cells.length ≤ 9223372036854775807 ∧ ∀ k ∈ x.cells, -9223372036854775808 ≤ k ∧ k ≤ 9223372036854775807) : FilesAt W A n out := by
  have hn : n = out.length := by
    rcases h.row.2 with ⟨e, e2⟩ | ⟨g, cap, cur, e, _⟩
    · injection e with e1 e3 e4
      omega
    · injection e
  subst hn
  refine ⟨rfl, wf, fun i hi => ?_⟩
  obtain ⟨x, hx⟩ : ∃ x, out[i]? = some x := ⟨out[i]'(by omega), List.getElem?_eq_getElem (by omega)⟩
  rcases h.row.2 with ⟨e, e2⟩ | ⟨g, cap, cur, e, hb, hg, h1, h2, h3, h4⟩
  · omega
  · injection e with e1 e2 e3
    subst e1
    refine ⟨_, x, rfl, hx, (Array.getElem?_eq_some_iff.1 hg).1, fun j v hj => ?_, fun h0 => ?_⟩
    · have hlen : ∀ l : List FileD, (l.flatMap FileD.row).length = l.length * 3 := fun l => by
        induction l with
        | nil => rfl
        | cons a r ih => rw [List.flatMap_cons, List.length_append, ih]; simp [FileD.row, FileD.vals]; omega
      have hj3 : j < 3 := by
        have := (Array.getElem?_eq_some_iff.1 hj).1
        simpa [FileD.vals] using this
      have hat : (out.flatMap FileD.row)[i * 3 + j]? = some v := by
        have hs : out = out.take i ++ x :: out.drop (i + 1) := by
          obtain ⟨p, q⟩ := List.getElem?_eq_some_iff.1 hx
          rw [← q, ← List.drop_eq_getElem_cons p, List.take_append_drop]
        have hti : (out.take i).length = i := by rw [List.length_take]; omega
        rw [hs, List.flatMap_append, List.flatMap_cons, List.getElem?_append_right (by rw [hlen, hti]; omega), hlen, hti, Nat.add_sub_cancel_left, List.getElem?_append_left (by simpa [FileD.row, FileD.vals] using hj3)]
        simpa [FileD.row] using hj
      have hc := h.row.cellAt (i * 3 + j) (by omega)
      rw [hat] at hc
      rw [addr_add, addr_add]
      simpa [Nat.add_assoc] using hc
    · have hx2 := h.cs x (List.mem_of_getElem? hx)
      rcases hx2.2 with ⟨e, e2⟩ | ⟨g', cap', cur', e, hb', hg', _⟩
      · omega
      · injection e with e1 e2 e3
        refine ⟨_, e1, (Array.getElem?_eq_some_iff.1 hg').1, fun k hk => ?_⟩
        have hx3 := hx2
        unfold IB at hx3
        rw [e1] at hx3
        have hc := hx3.cellAt k (by omega)
        rw [List.getElem?_map, List.getElem?_eq_getElem hk] at hc
        rw [addr_add]
        simpa [List.getD, hk] using hc

theorem numsP_snoc {a : List (List UInt8)} {vs : List Int} {t : List UInt8} {v : Int} (h : numsP a = some vs) (ht : Lib.atoiAll t = .ok v) : numsP (a ++ [t]) = some (vs ++ [v]) := by
  induction a generalizing vs with
  | nil =>
    simp only [numsP, Option.some.injEq] at h
    subst h
    simp [numsP, ht]
  | cons u r ih =>
    simp only [numsP, List.cons_append] at h ⊢
    split at h
    · rename_i u' hu
      cases hr : numsP r with
      | none => rw [hr] at h; cases h
      | some ws =>
        rw [hr] at h
        simp only [Option.map_some, Option.some.injEq] at h
        subst h
        rw [ih hr]
        rfl
    · cases h
theorem numsP_none {a b : List (List UInt8)} {t : List UInt8} (ht : ∀ v, Lib.atoiAll t ≠ .ok v) : numsP (a ++ t :: b) = none := by
  induction a with
  | nil =>
    show (match Lib.atoiAll t with | .ok v => (numsP b).map (v :: ·) | _ => none) = none
    rcases num_cases (Lib.atoiAll t) with ⟨v, hc⟩ | hc | hc
    · exact absurd hc (ht v)
    · rw [hc]; rfl
    · rw [hc]
  | cons u r ih =>
    simp only [numsP, List.cons_append]
    rw [ih]
    split <;> rfl
theorem numsP_length {a : List (List UInt8)} {vs : List Int} (h : numsP a = some vs) : vs.length = a.length ∧ ∀ v ∈ vs, -9223372036854775808 ≤ v ∧ v ≤ 9223372036854775807 := by
  induction a generalizing vs with
  | nil =>
    simp only [numsP, Option.some.injEq] at h
    subst h
    exact ⟨rfl, fun v hv => (by cases hv)⟩
  | cons u r ih =>
    simp only [numsP] at h
    split at h
    · rename_i u' hu
      cases hr : numsP r with
      | none => rw [hr] at h; cases h
      | some ws =>
        rw [hr] at h
        simp only [Option.map_some, Option.some.injEq] at h
        subst h
        obtain ⟨h1, h2⟩ := ih hr
        refine ⟨by simp [h1], fun v hv => ?_⟩
        rcases List.mem_cons.1 hv with e | e
        · rw [e]; exact atoi_int hu
        · exact h2 v e
    · cases h
theorem linesP_snoc {a : List (List UInt8)} {ys : List FileD} {t : List UInt8} (h : linesP a = some ys) : linesP (a ++ [t]) = (lineP t).map fun x => ys ++ [x] := by
  induction a generalizing ys with
  | nil =>
    simp only [linesP, Option.some.injEq] at h
    subst h
    simp only [linesP, List.nil_append]
    cases lineP t <;> rfl
  | cons u r ih =>
    simp only [linesP, List.cons_append] at h ⊢
    split at h
    · cases h
    · rename_i x hx
      cases hr : linesP r with
      | none => rw [hr] at h; cases h
      | some ws =>
        rw [hr] at h
        simp only [Option.map_some, Option.some.injEq] at h
        subst h
        rw [ih hr]
        cases lineP t <;> rfl
theorem linesP_none {a : List (List UInt8)} (b : List (List UInt8)) (h : linesP a = none) : linesP (a ++ b) = none := by
  induction a with
  | nil => cases h
  | cons u r ih =>
    simp only [linesP, List.cons_append] at h ⊢
    split
    · rfl
    · rename_i x hx
      rw [hx] at h
      simp only [Option.map_eq_none_iff] at h
      rw [ih h]
      rfl
/-- What is so between two rounds of Parse's loop. -/
structure PI (w : World) (s : ByteArray) (b : Nat) (pre : List Ln) (W : World) : Prop where
  bel : Below w.heap.size w W
  sz : b + 7 ≤ W.heap.size
  bs : Boxed W b 9 (.string s)
  br : Boxed W (b + 1) 22 (.slice none 0 0)
  be : Boxed W (b + 1 + 1) 28 .nilIface
  lr : ∃ v out ys, Boxed W (b + 1 + 1 + 1) 22 v ∧ LR W (b + 7) v out ∧ linesP (pre.map (·.1)) = some ys ∧ out.map FileD.bare = (if bl s = [] then [] else ys) ∧ out.length ≤ pre.length ∧
    ∀ x ∈ out, x.name.size ≤ 9223372036854775807 ∧ x.cells.length ≤ 9223372036854775807 ∧ ∀ k ∈ x.cells, -9223372036854775808 ≤ k ∧ k ≤ 9223372036854775807
/-- What is so where a round has left. -/
structure PX (w : World) (b : Nat) (c : Code) (pre : List Ln) (W : World) : Prop where
  ret : c = .ret
  no : linesP (pre.map (·.1)) = none
  br : Boxed W (b + 1) 22 (.slice none 0 0)
  be : Boxed W (b + 1 + 1) 28 (.iface 24 (.int .i64 3))
  bel : Below w.heap.size w W
theorem PI.kept {w : World} {s : ByteArray} {b : Nat} {pre : List Ln} {W W' : World} (h : PI w s b pre W) (hb : b = w.heap.size) {row : Option Nat} (hg : W.grownBy W' row) (hr : ∀ r, row = some r → (b + 4 ≤ r ∧ r < b + 7) ∨ (b + 7 ≤ r ∧ ∃ o, W.heap[r]? = some o ∧ o.isCells = false)) : PI w s b pre W' := by
  have ne : ∀ k, k < 4 → some (b + k) ≠ row := fun k hk e => by
    rcases hr _ e.symm with h | h <;> omega
  obtain ⟨v, out, ys, h1, h2, h3, h4, h5, h6⟩ := h.lr
  refine ⟨h.bel.grown hg (by have := h.sz; omega) (fun r e => by rcases hr r e with h | h <;> omega), Nat.le_trans h.sz hg.size, h.bs.kept hg (ne 0 (by omega)), h.br.kept hg (ne 1 (by omega)), h.be.kept hg (ne 2 (by omega)),
    v, out, ys, h1.kept hg (ne 3 (by omega)), h2.off hg (fun r e => ?_), h3, h4, h5, h6⟩
  rcases hr r e with h | h
  · exact .inl h.2
  · exact .inr h.2
theorem PX.kept {w : World} {b : Nat} {c : Code} {pre : List Ln} {W W' : World} (h : PX w b c pre W) (hb : b = w.heap.size) {row : Option Nat} (hg : W.grownBy W' row) (hr : ∀ r, row = some r → (b + 4 ≤ r ∧ r < b + 7) ∨ (b + 7 ≤ r ∧ ∃ o, W.heap[r]? = some o ∧ o.isCells = false)) : PX w b c pre W' := by
  have ne : ∀ k, k < 4 → some (b + k) ≠ row := fun k hk e => by
    rcases hr _ e.symm with h | h <;> omega
  have hsz : w.heap.size ≤ W.heap.size := h.bel.size
  exact ⟨h.ret, h.no, h.br.kept hg (ne 1 (by omega)), h.be.kept hg (ne 2 (by omega)), h.bel.grown hg hsz (fun r e => by rcases hr r e with h | h <;> omega)⟩
theorem PI.own {w : World} {s : ByteArray} {b n : Nat} (hb : b = w.heap.size) (hn : b + 7 ≤ n) : OwnFrom n (fun pre W => PI w s b pre W) := fun _ _ _ _ hs hg hr => hs.kept hb hg (fun r e => .inr ⟨Nat.le_trans hn (hr r e).1, (hr r e).2⟩)
theorem PX.own {w : World} {b n : Nat} (hb : b = w.heap.size) (hn : b + 7 ≤ n) (c : Code) : OwnFrom n (fun pre W => PX w b c pre W) := fun _ _ _ _ hs hg hr => hs.kept hb hg (fun r e => .inr ⟨Nat.le_trans hn (hr r e).1, (hr r e).2⟩)
theorem PI.step {w : World} {s : ByteArray} {b : Nat} {pre : List Ln} {W W' : World} (hb : b = w.heap.size) (h : PI w s b pre W) (hs : StepB (b + 1 + 1 + 1 + 1) W W') : PI w s b pre W' := by
  obtain ⟨v, rfl⟩ := hs
  exact h.kept hb (grownBy_setCell' W _ v) (fun r e => .inl (by cases e; omega))
theorem PX.step {w : World} {b : Nat} {c : Code} {pre : List Ln} {W W' : World} (hb : b = w.heap.size) (h : PX w b c pre W) (hs : StepB (b + 1 + 1 + 1 + 1) W W') : PX w b c pre W' := by
  obtain ⟨v, rfl⟩ := hs
  exact h.kept hb (grownBy_setCell' W _ v) (fun r e => .inl (by cases e; omega))

theorem info_file : (Tryz.prog.info? 44).map (fun i => (i.zero, i.size, i.bytes)) = some (some (.agg #[.string ⟨#[]⟩, .int .i64 0, .slice none 0 0]), 3, 48) := by kernel_rfl
theorem info_int : (Tryz.prog.info? 3).map (fun i => (i.zero, i.size, i.bytes)) = some (some (.int .i64 0), 1, 8) := by kernel_rfl
theorem news_l (w : World) (l : List Value) (t : TypeId) : ∀ j u, l[j]? = some u → (w.alloc (.cells l.toArray t)).cell? ((⟨w.heap.size, 0, none⟩ : Addr).add j) = some u := by
  intro j u hj
  rw [addr_add, (Blk.new w t l.toArray).cell]
  simpa using hj
theorem grownBy_setC (W : World) (b i : Nat) (v : Value) : W.grownBy (W.setCell ⟨b, i, none⟩ v) (some b) :=
  ⟨rfl, rfl, rfl, by simp [World.setCell], fun k _ hne => Below.heap_setCell W ⟨b, i, none⟩ v k (fun e => hne (by rw [e]))⟩
theorem below_keeps {W W' : World} (h : Below W.heap.size W W') (n : Nat) : KeepsFrom n W W' := ⟨h.size, fun k o _ hk _ => (h.block k (Array.getElem?_eq_some_iff.1 hk).1).trans hk⟩

theorem own_slice {W : World} {b : Nat} {e : TypeId} {z k : Nat} {v : Value} {xs : List Value} (h : W.ownsRow b e z v k xs) : ∃ A c, v = .slice A k c := by
  rcases h.2 with ⟨rfl, rfl⟩ | ⟨g, cap, cur, rfl, _⟩
  · exact ⟨_, _, rfl⟩
  · exact ⟨_, _, rfl⟩
theorem own_mono {W : World} {b b' : Nat} {e : TypeId} {z k : Nat} {v : Value} {xs : List Value} (h : W.ownsRow b e z v k xs) (hb : b' ≤ b) : W.ownsRow b' e z v k xs := by
  refine ⟨h.1, ?_⟩
  rcases h.2 with h2 | ⟨g, cap, cur, h1, h2, h3⟩
  · exact .inl h2
  · exact .inr ⟨g, cap, cur, h1, Nat.le_trans hb h2, h3⟩
theorem own_cells {W : World} {b : Nat} {e : TypeId} {z k : Nat} {v : Value} {xs : List Value} (h : W.ownsRow b e z v k xs) : ∀ (j : Nat) (o : Obj), v.ownBlock = some j → W.heap[j]? = some o → o.isCells = true := by
  intro j o hj ho
  rcases h.2 with ⟨rfl, _⟩ | ⟨g, cap, cur, rfl, _, hg, _⟩
  · cases hj
  · simp only [Value.ownBlock, Option.some.injEq] at hj
    subst hj
    rw [hg] at ho
    injection ho with ho
    subst ho
    rfl
/-- A round at whose end one more is there. -/
theorem push {w W V w1 : World} {s : ByteArray} {b n : Nat} {pre : List Ln} {x : Ln} {x' : FileD} {v v' : Value} {out ys : List FileD} (hb : b = w.heap.size) (h : PI w s b pre W) (hV : Below W.heap.size W V)
    (k3 : Boxed V (b + 1 + 1 + 1) 22 v) (hLR : LR V (b + 7) v out) (hys : linesP (pre.map (·.1)) = some ys) (hmap : out.map FileD.bare = (if bl s = [] then [] else ys)) (hlen : out.length ≤ pre.length)
    (hwf : ∀ x ∈ out, x.name.size ≤ 9223372036854775807 ∧ x.cells.length ≤ 9223372036854775807 ∧ ∀ k ∈ x.cells, -9223372036854775808 ≤ k ∧ k ≤ 9223372036854775807) (hne : bl s ≠ [])
    (hx : lineP x.1 = some x'.bare) (hxwf : x'.name.size ≤ 9223372036854775807 ∧ x'.cells.length ≤ 9223372036854775807 ∧ ∀ k ∈ x'.cells, -9223372036854775808 ≤ k ∧ k ≤ 9223372036854775807) (hIB : IB V (b + 7) x') (t : Obj)
    (hg : (V.alloc t).grownBy w1 v.ownBlock) (ho : w1.ownsRow (b + 7) 44 3 v' (out.length + 1) (out.flatMap FileD.row ++ x'.row)) :
    KeepsFrom n W (w1.setCell ⟨b + 1 + 1 + 1, 0, none⟩ v') ∧ Keep3 (b + 1 + 1 + 1 + 1) W (w1.setCell ⟨b + 1 + 1 + 1, 0, none⟩ v') ∧ PI w s b (pre ++ [x]) (w1.setCell ⟨b + 1 + 1 + 1, 0, none⟩ v') := by
  have hown : (V.alloc t).ownsRow (b + 7) 44 3 v out.length (out.flatMap FileD.row) := hLR.row.alloc t
  have hsz := h.sz
  have hszV := hV.size
  have blk : ∀ j, j < b + 7 → w1.heap[j]? = W.heap[j]? := fun j hj =>
    (hg.block j (by simp; omega) (own_ne' hown hj)).trans ((Below.heap_alloc V t j (by omega)).trans (hV.block j (by omega)))
  have blk2 : ∀ j, j < b + 7 → j ≠ b + 1 + 1 + 1 → (w1.setCell ⟨b + 1 + 1 + 1, 0, none⟩ v').heap[j]? = W.heap[j]? := fun j hj hj2 =>
    (Below.heap_setCell w1 ⟨b + 1 + 1 + 1, 0, none⟩ v' j hj2).trans (blk j hj)
  have k3' : Boxed w1 (b + 1 + 1 + 1) 22 v := (hg.block _ (by simp; omega) (own_ne' hown (by omega))).trans (k3.alloc t)
  refine ⟨(below_keeps hV n).trans ((((KeepsOthers.alloc V t).trans (KeepsOthers.of_grownBy hg (own_cells hown))).trans (KeepsOthers.setCell _ _ _)).from n), fun k hk => blk2 _ (by omega) (by omega), ?_⟩
  refine ⟨?_, ?_, (blk2 b (by omega) (by omega)).trans h.bs, (blk2 (b + 1) (by omega) (by omega)).trans h.br, (blk2 (b + 1 + 1) (by omega) (by omega)).trans h.be, v', out ++ [x'], ys ++ [x'.bare], k3'.set v', ?_, ?_, ?_, ?_, ?_⟩
  · exact (((below_step h.bel hV).alloc (by omega) t).grown hg (by simp; omega) (fun k hk => by have := (hown.lt k hk).1; omega)).setCell (by show w.heap.size ≤ b + 1 + 1 + 1; omega) _
  · have := hg.size
    simp at this
    simp [World.setCell]
    omega
  · exact (hLR.snoc hIB t hg ho).off (grownBy_setC _ _ _ _) (fun r e => .inl (by cases e; omega))
  · rw [List.map_append, List.map_cons, List.map_nil, linesP_snoc hys, hx]; rfl
  · rw [if_neg hne] at hmap ⊢
    rw [List.map_append, hmap]; rfl
  · simp; omega
  · intro y hy
    rcases List.mem_append.1 hy with e | e
    · exact hwf y e
    · rw [List.mem_singleton.1 e]; exact hxwf
/-- A round of an empty text. -/
theorem pass {w W V : World} {s : ByteArray} {b n : Nat} {pre : List Ln} {x : Ln} {x' : FileD} (h : PI w s b pre W) (hV : Below W.heap.size W V) (hs : bl s = []) (hx : lineP x.1 = some x') :
    KeepsFrom n W V ∧ Keep3 (b + 1 + 1 + 1 + 1) W V ∧ PI w s b (pre ++ [x]) V := by
  obtain ⟨v, out, ys, h1, h2, h3, h4, h5, h6⟩ := h.lr
  have hsz := h.sz
  refine ⟨below_keeps hV n, fun k hk => hV.block _ (by omega), below_step h.bel hV, Nat.le_trans hsz hV.size, (hV.block _ (by omega)).trans h.bs, (hV.block _ (by omega)).trans h.br, (hV.block _ (by omega)).trans h.be,
    v, out, ys ++ [x'], (hV.block _ (by omega)).trans h1, h2.below hV, ?_, ?_, by simp; omega, h6⟩
  · rw [List.map_append, List.map_cons, List.map_nil, linesP_snoc h3, hx]; rfl
  · rw [if_pos hs] at h4 ⊢; exact h4
end Go.Proofs.YtmligbaalbbgiabGreatDoor

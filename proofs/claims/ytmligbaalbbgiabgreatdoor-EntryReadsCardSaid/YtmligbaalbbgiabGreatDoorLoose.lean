/- A region that draws its order, some of whose operations yield a value that hangs on the world in which they come up (a new block's place): one walk in the order of the text serves every order, such a value being a letter of which a fact is known. It states nothing about the program. -/
import Derived.Test.YtmligbaalbbgiabGreatDoorBase
import Derived.StillTail
namespace Go.Proofs.YtmligbaalbbgiabGreatDoor
open Go.RowKit

/-- A class of worlds: those that have come of one by a draw and by calls that leave what was there. -/
structure Cls (w0 : World) (C : World → Prop) : Prop where
  draw : C { w0 with drawn := w0.drawn + 1 }
  step : ∀ w w', C w → Below w.heap.size w w' → C w'
  below : ∀ w, C w → Below w0.heap.size w0 w
theorem cls_ex (w0 : World) : ∃ C, Cls w0 C :=
  ⟨fun w => Below w0.heap.size w0 w, below_drewN (Below.refl _ _) 1, fun _ _ h k => below_step h k, fun _ h => h⟩
theorem Cls.self {w0 : World} {C : World → Prop} (h : Cls w0 C) : C { w0 with drawn := w0.drawn + 1 } := h.draw

theorem wp_region_cls {P : Program} {id : Nat} {Q : Exit → Act → World → Prop} {a : Act} {w : World} {l : List Oper} {C : World → Prop} (hC : Cls w C) (hm : P.follows .mixedOrders = true) (hB : Region.lexB .any l.toArray = true)
    (h : wpQuiet P l.toArray C (fun a' => ∀ w', C w' → Q .normal a' w') l a) : (Code.region id l.toArray true).wp P Q a w :=
  wp_region_quiet (C := C) hm hB hC.draw (by simpa using h)

/-- Texts, told apart as the walk does. -/
theorem toL_ne {a b : ByteArray} (h : a ≠ b) : (a.toList == b.toList) = false := by
  rw [beq_eq_false_iff_ne]
  intro e
  apply h
  apply bl_inj
  simpa [bl, ByteArray.toList_eq] using e
theorem toL_eq (a : ByteArray) : (a.toList == a.toList) = true := by simp

section
variable {P : Program} {ops : Array Oper} {md : Region.Mode} {C : World → Prop} {S : World → World → Prop} {V : Nat → Value → World → Prop} {Z : Nat → Bool}

/-- What is known of the letters that an operation waits for. -/
def LDep (md : Region.Mode) (V : Nat → Value → World → Prop) (Z : Nat → Bool) (o : Oper) (v : Nat → Value) (w : World) : Prop :=
  ∀ i, Z i = true → (o.after.any fun e => Region.binds md e && e.on == i) = true → V i (v i) w
/-- An operation yields a value of which R holds. -/
def LUpon (P : Program) (S : World → World → Prop) (R : Value → World → Prop) (w : World) : Result Next → Prop
  | .ok (.value u) w' => S w w' ∧ R u w'
  | .ok (.enter f args) w' => w' = w ∧ Calls P f args w (fun e w'' => ∃ u, e = .returned u ∧ S w w'' ∧ R u w'')
  | _ => False
def LAt (P : Program) (o : Oper) (a : Act) (S : World → World → Prop) (R : Value → World → Prop) (w : World) : Prop := LUpon P S R w ((execOp a.eval o).run P w)

/-- What an operation yields in a family of frames. -/
def LYields (P : Program) (md : Region.Mode) (ops : Array Oper) (C : World → Prop) (S : World → World → Prop) (V : Nat → Value → World → Prop) (Z : Nat → Bool) (k : Nat) (o : Oper) (y : (Nat → Value) → Value) (a : (Nat → Value) → Act) : Prop :=
  ((∀ v, Region.wanted o (yielded ops (a v).tmps) = true) ∧
    ((Z k = true ∧ y = (fun v => v k) ∧ ∀ v w, C w → LDep md V Z o v w → LAt P o (a v) S (V k) w) ∨
     (Z k = false ∧ ∃ c, y = (fun _ => c) ∧ ∀ v w, C w → LDep md V Z o v w → LAt P o (a v) S (fun u _ => u = c) w))) ∨
  ((∀ v, Region.wanted o (yielded ops (a v).tmps) = false) ∧ Z k = false ∧ y = fun _ => undef)

/-- The walk in the order of the text. -/
def wpLoose (P : Program) (md : Region.Mode) (ops : Array Oper) (C : World → Prop) (S : World → World → Prop) (V : Nat → Value → World → Prop) (Z : Nat → Bool) (Q : ((Nat → Value) → Act) → Prop) : List Oper → Nat → ((Nat → Value) → Act) → Prop
  | [], _, a => Q a
  | o :: rest, k, a => ∃ y, LYields P md ops C S V Z k o y a ∧ wpLoose P md ops C S V Z Q rest (k + 1) (fun v => (a v).put o.dst (y v))

theorem wpLoose_const {Q : ((Nat → Value) → Act) → Prop} {o : Oper} {rest : List Oper} {k : Nat} {a : (Nat → Value) → Act} (c : Value) (hz : Z k = false) (hw : ∀ v, Region.wanted o (yielded ops (a v).tmps) = true)
    (h : ∀ v w, C w → LDep md V Z o v w → LAt P o (a v) S (fun u _ => u = c) w) (H : wpLoose P md ops C S V Z Q rest (k + 1) (fun v => (a v).put o.dst c)) : wpLoose P md ops C S V Z Q (o :: rest) k a :=
  ⟨fun _ => c, .inl ⟨hw, .inr ⟨hz, c, rfl, h⟩⟩, H⟩
theorem wpLoose_loose {Q : ((Nat → Value) → Act) → Prop} {o : Oper} {rest : List Oper} {k : Nat} {a : (Nat → Value) → Act} (hz : Z k = true) (hw : ∀ v, Region.wanted o (yielded ops (a v).tmps) = true)
    (h : ∀ v w, C w → LDep md V Z o v w → LAt P o (a v) S (V k) w) (H : wpLoose P md ops C S V Z Q rest (k + 1) (fun v => (a v).put o.dst (v k))) : wpLoose P md ops C S V Z Q (o :: rest) k a :=
  ⟨fun v => v k, .inl ⟨hw, .inl ⟨hz, rfl, h⟩⟩, H⟩
theorem wpLoose_skip {Q : ((Nat → Value) → Act) → Prop} {o : Oper} {rest : List Oper} {k : Nat} {a : (Nat → Value) → Act} (hz : Z k = false) (hw : ∀ v, Region.wanted o (yielded ops (a v).tmps) = false)
    (H : wpLoose P md ops C S V Z Q rest (k + 1) (fun v => (a v).put o.dst undef)) : wpLoose P md ops C S V Z Q (o :: rest) k a :=
  ⟨fun _ => undef, .inr ⟨hw, hz, rfl⟩, H⟩

/-- Every order. -/
def LAny (P : Program) (md : Region.Mode) (ops : Array Oper) (C : World → Prop) (S : World → World → Prop) (V : Nat → Value → World → Prop) (Z : Nat → Bool) (Q : ((Nat → Value) → Act) → Prop) : Nat → Array Bool → ((Nat → Value) → Act) → Prop
  | 0, s, a => Region.ready md ops s = [] ∧ Q a
  | f + 1, s, a => Region.ready md ops s ≠ [] ∧ ∀ i, i ∈ Region.ready md ops s → ∀ o, ops[i]? = some o →
      ∃ y, LYields P md ops C S V Z i o y a ∧ LAny P md ops C S V Z Q f (s.setIfInBounds i true) (fun v => (a v).put o.dst (y v))

theorem LYields.of_same {k : Nat} {o : Oper} {y : (Nat → Value) → Value} {a a' : (Nat → Value) → Act} (h : LYields P md ops C S V Z k o y a) (he : ∀ v, execOp (a' v).eval o = execOp (a v).eval o)
    (hw : ∀ v, Region.wanted o (yielded ops (a' v).tmps) = Region.wanted o (yielded ops (a v).tmps)) : LYields P md ops C S V Z k o y a' := by
  unfold LYields LAt at *
  simp only [he, hw]
  exact h

theorem LAny.first {Q : ((Nat → Value) → Act) → Prop} {i : Nat} {oi : Oper} {y : (Nat → Value) → Value} (hi : ops[i]? = some oi) (hsel : Region.noSelect ops = true) (f : Nat) :
    ∀ (s : Array Bool) (a : (Nat → Value) → Act),
      (∀ j oj, ops[j]? = some oj → j ≠ i → s.getD j true = false → (∀ e ∈ oj.after, Region.binds md e = true → e.on ≠ i) → oi.apart ops oj = true) →
      i ∈ Region.ready md ops s → LYields P md ops C S V Z i oi y a →
      LAny P md ops C S V Z Q f (s.setIfInBounds i true) (fun v => (a v).put oi.dst (y v)) → LAny P md ops C S V Z Q (f + 1) s a := by
  induction f with
  | zero =>
    intro s a _ hr hy H
    refine ⟨fun h => (by rw [h] at hr; cases hr), fun j hj oj hoj => ?_⟩
    by_cases hji : j = i
    · subst hji
      obtain rfl : oi = oj := Option.some.inj (hi.symm.trans hoj)
      exact ⟨y, hy, H⟩
    · have := ready_mono hj hji
      rw [H.1] at this
      cases this
  | succ f ih =>
    intro s a hfree hr hy H
    refine ⟨fun h => (by rw [h] at hr; cases hr), fun j hj oj hoj => ?_⟩
    by_cases hji : j = i
    · subst hji
      obtain rfl : oi = oj := Option.some.inj (hi.symm.trans hoj)
      exact ⟨y, hy, H⟩
    · obtain ⟨yj, hyj, hK⟩ := H.2 j (ready_mono hj hji) oj hoj
      obtain ⟨hjs, oj', hoj', hall⟩ := mem_ready.1 hj
      obtain rfl : oj' = oj := Option.some.inj (hoj'.symm.trans hoj)
      have hne : ∀ e ∈ oj'.after, Region.binds md e = true → e.on ≠ i := fun e he hb heq => by
        have h1 := hall e he hb
        rw [heq, getD_both (mem_ready.1 hr).1] at h1
        cases h1
      obtain ⟨h1, h2, h3⟩ := Oper.apart_spec (hfree j oj' hoj hji hjs hne)
      have hsi : ∀ cs b, oi.op ≠ .select cs b := fun cs b => Region.noSelect_spec hsel i oi cs b hi
      have hsj : ∀ cs b, oj'.op ≠ .select cs b := fun cs b => Region.noSelect_spec hsel j oj' cs b hoj
      have hyj' : LYields P md ops C S V Z j oj' yj a :=
        hyj.of_same (fun v => (execOp_put oj' hsj (a v) oi.dst (y v) h1).symm) (fun v => (wanted_put oj' (a v) oi.dst (y v) h1).symm)
      have hy' : LYields P md ops C S V Z i oi y (fun v => (a v).put oj'.dst (yj v)) :=
        hy.of_same (fun v => execOp_put oi hsi (a v) oj'.dst (yj v) h3) (fun v => wanted_put oi (a v) oj'.dst (yj v) h3)
      refine ⟨yj, hyj', ih _ _ (fun k ok hk hki hun hno => hfree k ok hk hki ?_ hno) (ready_mono hr (Ne.symm hji)) hy' ?_⟩
      · by_cases hjk : j = k
        · subst hjk; exact hjs
        · rwa [getD_set_ne true hjk] at hun
      · have e : (fun v => ((a v).put oj'.dst (yj v)).put oi.dst (y v)) = (fun v => ((a v).put oi.dst (y v)).put oj'.dst (yj v)) := by
          funext v
          exact (Act.put_comm (a v) (y v) (yj v) h2).symm
        rw [Array.setIfInBounds_comm _ _ hji]
        exact e ▸ hK

theorem LAny.lex {Q : ((Nat → Value) → Act) → Prop} (hsel : Region.noSelect ops = true) : ∀ (l : List Oper) (k : Nat) (s : Array Bool) (a : (Nat → Value) → Act), (∀ j, l[j]? = ops[k + j]?) →
    Region.lexFrom md ops l.length k s = true → wpLoose P md ops C S V Z Q l k a → LAny P md ops C S V Z Q l.length s a
  | [], _, _, _, _, hB, h => ⟨by simpa [Region.lexFrom] using hB, h⟩
  | o :: l, k, s, a, hl, hB, h => by
    have h0 : ops[k]? = some o := by simpa using (hl 0).symm
    simp only [List.length_cons, Region.lexFrom, Bool.and_eq_true] at hB
    obtain ⟨⟨hr, hf⟩, hB'⟩ := hB
    obtain ⟨y, hy, hK⟩ := h
    exact LAny.first h0 hsel l.length s a (Region.free_spec h0 hf) (by simpa using hr) hy
      (LAny.lex hsel l (k + 1) _ _ (fun j => by have := hl (j + 1); simpa [Nat.add_assoc, Nat.add_comm 1 j] using this) hB' hK)

/-- The letters that a family of frames hangs on have come up. -/
def LOnly (s : Array Bool) (a : (Nat → Value) → Act) : Prop := ∀ v v', (∀ i, s.getD i false = true → v i = v' i) → a v = a v'

theorem LAny.sound {Q : ((Nat → Value) → Act) → Prop} {Q' : Exit → Act → World → Prop} (hst : ∀ w w', C w → S w w' → C w' ∧ ∀ i u, V i u w → V i u w') (_hsame : ∀ w, C w → S w w)
    (hQ : ∀ a, Q a → ∀ v w, C w → (∀ i, Z i = true → i < ops.size → V i (v i) w) → Q' .normal (a v) w) (hend : ∀ s : Array Bool, s.size = ops.size → Region.ready md ops s = [] → ∀ i, i < ops.size → s.getD i false = true) (f : Nat) :
    ∀ (s : Array Bool) (a : (Nat → Value) → Act), s.size = ops.size → LOnly s a → LAny P md ops C S V Z Q f s a → ∀ v w, C w → (∀ i, Z i = true → s.getD i false = true → V i (v i) w) → wpAny P md ops Q' f s (a v) w := by
  induction f with
  | zero =>
    intro s a hs _ h v w hC hV
    exact ⟨h.1, hQ a h.2 v w hC fun i hz hi => hV i hz (hend s hs h.1 i hi)⟩
  | succ f ih =>
    intro s a hs hO h v w hC hV
    refine ⟨fun h0 => absurd h0 h.1, fun i hi => ?_⟩
    obtain ⟨his, o, ho, hall⟩ := mem_ready.1 hi
    obtain ⟨y, hy, hK⟩ := h.2 i hi o ho
    have hlt : i < ops.size := (Array.getElem?_eq_some_iff.1 ho).1
    have hset : (s.setIfInBounds i true).getD i false = true := by
      simp [Array.getD, hs, hlt]
    have hdep : LDep md V Z o v w := fun d hz hd => by
      obtain ⟨e, he, hb⟩ := Array.any_eq_true'.1 hd
      simp only [Bool.and_eq_true, beq_iff_eq] at hb
      have := hall e he hb.1
      rw [hb.2] at this
      exact hV d hz this
    -- what follows, once the operation has yielded u
    have go : ∀ (u : Value) (w' : World), C w' → (∀ d, Z d = true → s.getD d false = true → V d (v d) w') → (∀ c, y = (fun _ => c) → u = c) → (Z i = true → y = (fun v => v i) ∧ V i u w') →
        wpAny P md ops Q' f (s.setIfInBounds i true) ((a v).put o.dst u) w' := fun u w' hC' hV' hc hz => by
      let v' : Nat → Value := fun d => if d = i then u else v d
      have hav : a v' = a v := hO v' v fun d hd => by
        have hdi : d ≠ i := by
          rintro rfl
          rw [getD_both his] at hd
          cases hd
        simp [v', hdi]
      have hyu : y v' = u := by
        rcases hy with ⟨_, ⟨_, rfl, _⟩ | ⟨_, c, rfl, _⟩⟩ | ⟨_, _, rfl⟩
        · simp [v']
        · exact (hc c rfl).symm
        · exact (hc undef rfl).symm
      have hO' : LOnly (s.setIfInBounds i true) (fun v => (a v).put o.dst (y v)) := fun p q hpq => by
        have h1 : a p = a q := hO p q fun d hd => hpq d (getD_set_true hd)
        have h2 : y p = y q := by
          rcases hy with ⟨_, ⟨_, rfl, _⟩ | ⟨_, c, rfl, _⟩⟩ | ⟨_, _, rfl⟩
          · exact hpq i hset
          · rfl
          · rfl
        show (a p).put o.dst (y p) = (a q).put o.dst (y q)
        rw [h1, h2]
      have := ih (s.setIfInBounds i true) _ (by simpa using hs) hO' hK v' w' hC' (fun d hz' hd => by
        by_cases hdi : d = i
        · subst hdi
          simpa [v'] using (hz hz').2
        · rw [getD_set_ne false (Ne.symm hdi)] at hd
          simpa [v', hdi] using hV' d hz' hd)
      simp only [hav, hyu] at this
      exact this
    have keep : ∀ w', S w w' → C w' ∧ ∀ d, Z d = true → s.getD d false = true → V d (v d) w' := fun w' hS =>
      ⟨(hst w w' hC hS).1, fun d hz hd => (hst w w' hC hS).2 d _ (hV d hz hd)⟩
    unfold wpOp
    simp only [ho]
    have run : ∀ R : Value → World → Prop, LAt P o (a v) S R w → (∀ u w', S w w' → R u w' → wpAny P md ops Q' f (s.setIfInBounds i true) ((a v).put o.dst u) w') →
        o.wp P (a v) w (wpAny P md ops Q' f (s.setIfInBounds i true)) Q' := fun R h1 h2 => by
      unfold LAt at h1
      unfold Oper.wp
      generalize (execOp (a v).eval o).run P w = r at *
      cases r with
      | ok n w' =>
        cases n with
        | value u => exact h2 u w' h1.1 h1.2
        | enter g args =>
          obtain ⟨rfl, h1⟩ := h1
          exact Calls.mono h1 fun e w'' he => by
            obtain ⟨u, rfl, hS, hR⟩ := he
            exact h2 u w'' hS hR
        | _ => exact h1.elim
      | halt x w' => exact h1.elim
    rcases hy with ⟨hw, ⟨hz, hyz, hrun⟩ | ⟨hz, c, hyc, hrun⟩⟩ | ⟨hw, hz, hyc⟩
    · rw [if_pos (hw v)]
      refine .inl (run (V i) (hrun v w hC hdep) fun u w' hS hR => ?_)
      refine go u w' (keep w' hS).1 (keep w' hS).2 (fun c hc => ?_) (fun _ => ⟨hyz, hR⟩)
      rw [hyz] at hc
      have e1 := congrFun hc (fun _ => undef)
      have e2 := congrFun hc (fun _ => u)
      exact e2
    · rw [if_pos (hw v)]
      refine .inl (run (fun u _ => u = c) (hrun v w hC hdep) fun u w' hS hR => ?_)
      refine go u w' (keep w' hS).1 (keep w' hS).2 (fun c' hc => ?_) (fun h => by rw [hz] at h; cases h)
      rw [hyc] at hc
      exact hR.trans (congrFun hc (fun _ => undef))
    · rw [if_neg (by rw [hw v]; decide)]
      refine go undef w hC hV (fun c' hc => ?_) (fun h => by rw [hz] at h; cases h)
      rw [hyc] at hc
      exact congrFun hc (fun _ => undef)

/-- Nothing is ready only when all have come up: read off the region. -/
def LEndB (md : Region.Mode) (ops : Array Oper) : Bool := (List.range ops.size).all fun i => ((ops[i]?).map fun o => o.after.all fun e => !Region.binds md e || decide (e.on < i)).getD false
theorem LEndB.spec (h : LEndB md ops = true) (s : Array Bool) (hs : s.size = ops.size) (hr : Region.ready md ops s = []) : ∀ i, i < ops.size → s.getD i false = true := by
  intro i
  induction i using Nat.strongRecOn with
  | _ i ih =>
    intro hi
    have h1 := List.all_eq_true.1 h i (List.mem_range.2 hi)
    have ho : ops[i]? = some ops[i] := Array.getElem?_eq_getElem hi
    rw [ho] at h1
    simp only [Option.map_some, Option.getD_some] at h1
    by_cases hsi : s.getD i false = true
    · exact hsi
    · exfalso
      have : i ∈ Region.ready md ops s := by
        rw [mem_ready]
        refine ⟨?_, ops[i], ho, fun e he hb => ?_⟩
        · have : i < s.size := by omega
          simp only [Array.getD, this, dite_true] at hsi ⊢
          simpa using hsi
        · have h2 := Array.all_eq_true_iff_forall_mem.1 h1 e he
          simp only [hb, Bool.not_true, Bool.false_or, decide_eq_true_eq] at h2
          exact ih e.on h2 (by omega)
      rw [hr] at this
      cases this

/-- THE LAW. -/
theorem wp_region_loose {id : Nat} {Q : Exit → Act → World → Prop} {a : Act} {w : World} {l : List Oper} (hm : P.follows .mixedOrders = true) (hB : Region.lexB .any l.toArray = true) (hE : LEndB .any l.toArray = true)
    (hC : C { w with drawn := w.drawn + 1 }) (hst : ∀ w w', C w → S w w' → C w' ∧ ∀ i u, V i u w → V i u w') (_hsame : ∀ w, C w → S w w)
    (h : wpLoose P .any l.toArray C S V Z (fun a => ∀ v w, C w → (∀ i, Z i = true → i < l.toArray.size → V i (v i) w) → Q .normal (a v) w) l 0 (fun _ => a)) : (Code.region id l.toArray true).wp P Q a w := by
  simp only [Region.lexB, Bool.and_eq_true] at hB
  refine wp_region_any hm ?_
  have h1 := LAny.lex hB.1 l 0 (Array.replicate l.toArray.size false) (fun _ => a) (fun j => by simp) (by simpa using hB.2) h
  have h2 := LAny.sound (Q' := Q) hst _hsame (fun a h => h) (LEndB.spec hE) _ _ _ (by simp) (fun _ _ _ => rfl) h1 (fun _ => undef) { w with drawn := w.drawn + 1 } hC (fun i _ hi => by
    rw [getD_replicate_false] at hi; cases hi)
  simpa using h2
end
end Go.Proofs.YtmligbaalbbgiabGreatDoor

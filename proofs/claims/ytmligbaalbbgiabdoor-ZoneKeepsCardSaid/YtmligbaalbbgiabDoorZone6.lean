/- slices.Backward of writes; the device's Get. Condition: a device lies at the receiver; at most 65536 writes wait. -/
import Derived.Test.YtmligbaalbbgiabDoorProg
import Derived.Test.YtmligbaalbbgiabDoorZone3
import Derived.RangeFuncNested
import Derived.RangeFuncBound
import Derived.RangeFuncCalls
import Derived.RangeFuncLeaves
import Derived.RangeFuncBox
import Derived.Shelf.Abstract
import Derived.OwnWalkIn
import Derived.TacticsInMore
import Derived.LoopNIn
import Derived.LoopIn
namespace Go.Proofs.YtmligbaalbbgiabDoor
open Go.RowKit Go.Shelf

attribute [local go_sem] Oper.semAt_some

/-- What has come when k rounds are over. -/
def upTo {α : Type} (f : Nat → α) (k : Nat) : List α := (List.range k).map f
theorem upTo_succ {α : Type} (f : Nat → α) (k : Nat) : upTo f (k + 1) = upTo f k ++ [f k] := by simp [upTo, List.range_succ]
theorem upTo_length {α : Type} (f : Nat → α) (k : Nat) : (upTo f k).length = k := by simp [upTo]

/-- What comes in the j-th round, backward. -/
def backF (q : List (Nat × ByteArray)) (j : Nat) : Nat × Nat × ByteArray := (q.length - 1 - j, q.getD (q.length - 1 - j) (0, ⟨#[]⟩))
def encW (x : Nat × Nat × ByteArray) : Array Value := #[.int .i64 (x.1 : Int), .agg #[.int .i64 (x.2.1 : Int), .string x.2.2]]
/-- A slice of writes that can be read. -/
def WritesAt (n₀ : Nat) (W : World) (a : Option Addr) (q : List (Nat × ByteArray)) : Prop :=
  0 < q.length → ∃ g, a = some ⟨g, 0, none⟩ ∧ g < n₀ ∧ ∀ j, j < q.length → W.cell? ⟨g, j * 2, none⟩ = some (.int .i64 ((q.getD j (0, ⟨#[]⟩)).1 : Int)) ∧ W.cell? ⟨g, j * 2 + 1, none⟩ = some (.string (q.getD j (0, ⟨#[]⟩)).2)
theorem WritesAt.below {n₀ : Nat} {A B : World} (h : Below n₀ A B) {a : Option Addr} {q : List (Nat × ByteArray)} (hw : WritesAt n₀ A a q) : WritesAt n₀ B a q := fun h0 => by
  obtain ⟨g, h1, h2, h3⟩ := hw h0
  exact ⟨g, h1, h2, fun j hj => ⟨(h.cell (p := ⟨g, j * 2, none⟩) h2).trans (h3 j hj).1, (h.cell (p := ⟨g, j * 2 + 1, none⟩) h2).trans (h3 j hj).2⟩⟩

set_option maxRecDepth 100000 in
set_option maxHeartbeats 2000000 in
theorem back1_in (F : Fence) (n : Nat) (h8 : F.fn 131) (hro : F.round = none) (hn : 1 ≤ n) (l Bs n₀ len cap : Nat) (a : Option Addr) (q : List (Nat × ByteArray)) (hq0 : len = q.length) (hlen : len ≤ 65536) (J Jx : List (Nat × Nat × ByteArray) → World → Prop)
    (hY : ∀ pre x W, J pre W → pre.length < len → YieldAt F (n - 1) Tryd.prog l (encW x) W fun e W' =>
      (e = .returned (.bool true) ∧ J (pre ++ [x]) W' ∧ Below n₀ W W') ∨ (e = .returned (.bool false) ∧ Jx (pre ++ [x]) W'))
    (W : World) (hBs0 : Bs < n₀) (hBs : W.cell? ⟨Bs, 0, none⟩ = some (.slice a len cap)) (hc : WritesAt n₀ W a q) (h0 : J [] W) :
    CallsIn F n Tryd.prog 131 #[.func (.yield l) #[] #[], .pointer (some ⟨Bs, 0, none⟩)] W fun e W' => (∃ v, e = .returned v) ∧
      ((∃ ys, ys = upTo (backF q) len ∧ J ys W') ∨ (∃ pre, (∃ k, k ≤ len ∧ pre = upTo (backF q) k) ∧ Jx pre W')) := by
  refine callsIn_of_wp Tryd.func131 rfl h8 ?_ hro
  simp only [Tryd.ntmps131, List.size_toArray, List.length_cons, List.length_nil, Nat.reduceAdd, Nat.reduceSub, Array.replicate_succ, Array.replicate_zero, List.push_toArray, List.append_toArray, List.nil_append, List.cons_append]
  have hw0 : wrap64 ((len : Int) - 1) = (len : Int) - 1 := by simp only [wrap64]; omega
  have HQ : Hid (len = q.length) := hq0
  clear hq0
  gi_wp2
  gi_loopw [3] (fun i wr => ∃ k : Nat, k ≤ len ∧ i = .int .i64 ((len : Int) - 1 - (k : Int)) ∧ J (upTo (backF q) k) wr ∧ Below n₀ W wr)
    (fun i _ => (intOf i + 1).toNat)
  case atStart => exact ⟨0, Nat.zero_le _, by simp, h0, Below.refl _ _⟩
  case round =>
    obtain ⟨k, hk, rfl, hJs, hnx⟩ := hrel
    have hbs := (hnx.cell (p := ⟨Bs, 0, none⟩) hBs0).trans hBs
    by_cases hlt : k < len
    · obtain ⟨m, hm⟩ : ∃ m : Nat, m = len - 1 - k := ⟨_, rfl⟩
      have hmi : (len : Int) - 1 - (k : Int) = (m : Int) := by omega
      have hml : m < q.length := by rw [← HQ.out]; omega
      obtain ⟨g, rfl, hg, hcs⟩ := (hc.below hnx) (by rw [← HQ.out]; omega)
      obtain ⟨at_, hat⟩ : ∃ x, x = (q.getD m (0, ⟨#[]⟩)).1 := ⟨_, rfl⟩
      obtain ⟨tx, htx⟩ : ∃ x, x = (q.getD m (0, ⟨#[]⟩)).2 := ⟨_, rfl⟩
      have q1 := (hcs m hml).1
      have q2 := (hcs m hml).2
      rw [← hat] at q1
      rw [← htx] at q2
      have hbf : backF q k = (m, at_, tx) := by unfold backF; rw [← HQ.out, ← hm, hat, htx]
      obtain ⟨fn, tmps, assign, body, hy, hR⟩ := hY _ (m, at_, tx) wr hJs (by rw [upTo_length]; exact hlt)
      dsimp only [encW] at hy
      rw [hmi]
      have im : (m : Int) < (len : Int) := by omega
      have i0 : (0 : Int) ≤ (m : Int) := by omega
      have hw1 : wrap64 ((m : Int) - 1) = (len : Int) - 1 - ((k + 1 : Nat) : Int) := by simp only [wrap64]; omega
      have HBF := hide hbf
      have HM := hide hmi
      clear hm hml hcs hat htx hbf hmi
      gi_wp2
      refine hR.mono ?_
      rintro e W3 (⟨rfl, hJ3, hk3⟩ | ⟨rfl, hJx3⟩)
      · gi_wp2
        go_roundw
        case rel => exact ⟨k + 1, by omega, by congr 1; have := HM.out; omega, by rw [upTo_succ, HBF.out]; exact hJ3, hnx.trans hk3⟩
        case measure => simp [intOf]
      · gi_wp2
        refine bodyPost_ret (results_none rfl _ _ _) rfl ?_
        exact ⟨⟨_, rfl⟩, .inr ⟨_, ⟨k + 1, by omega, by rw [upTo_succ, HBF.out]⟩, hJx3⟩⟩
    · obtain rfl : k = len := by omega
      have hi : (k : Int) - 1 - (k : Int) = -1 := by omega
      rw [hi]
      gi_wp2
      go_end0
      exact ⟨⟨_, rfl⟩, .inl ⟨_, rfl, hJs⟩⟩

set_option maxHeartbeats 1000000 in
theorem back_in (F : Fence) (n : Nat) (h5 : F.fn 96) (hro : F.round = none) (a : Option Addr) (len cap : Nat) (w : World) :
    CallsIn F n Tryd.prog 96 #[.slice a len cap] w fun e w' => e = .returned (.func (.func 131) #[] #[.pointer (some ⟨w.heap.size, 0, none⟩)]) ∧ w' = w.alloc (.cells #[.slice a len cap] 100) := by
  refine callsIn_of_wp Tryd.func96 rfl h5 ?_ hro
  simp only [Tryd.ntmps96, List.size_toArray, List.length_cons, List.length_nil, Nat.reduceAdd, Nat.reduceSub, Array.replicate_succ, Array.replicate_zero, List.push_toArray, List.append_toArray, List.nil_append, List.cons_append]
  gi_wp2
  go_ret
  exact ⟨rfl, rfl⟩

theorem back_stops (F : Fence) (n : Nat) (h8 : F.fn 131) (hro : F.round = none) (hn : 1 ≤ n) (Bs n₀ len cap : Nat) (a : Option Addr) (q : List (Nat × ByteArray)) (hq : len = q.length) (hlen : len ≤ 65536) (w : World) (hBs : Bs < n₀) (hn₀ : n₀ ≤ w.heap.size)
    (hc : w.cell? ⟨Bs, 0, none⟩ = some (.slice a len cap)) (hI : WritesAt n₀ w a q) :
    SeqStopsK F n Tryd.prog 131 #[.pointer (some ⟨Bs, 0, none⟩)] encW (Below n₀) (fun ys => ys = upTo (backF q) len)
      (fun pre => ∃ k, k ≤ len ∧ pre = upTo (backF q) k) len w := fun l J Jx W hW _ _ hY h0 =>
  back1_in F n h8 hro hn l Bs n₀ len cap a q hq hlen J Jx hY W hBs ((hW.cell (p := ⟨Bs, 0, none⟩) (Nat.lt_of_lt_of_le hBs hn₀)).trans hc) (hI.below (hW.mono hn₀)) h0

theorem putAll_none (q : List (Nat × ByteArray)) (T : List ByteArray) (k : Nat) (h : ∀ p ∈ q, p.1 ≠ k) : (putAll T q).getD k ⟨#[]⟩ = T.getD k ⟨#[]⟩ := by
  induction q generalizing T with
  | nil => rfl
  | cons p q ih =>
    have h1 := h p (List.mem_cons_self ..)
    have h2 := ih (T.set p.1 p.2) (fun x hx => h x (List.mem_cons_of_mem _ hx))
    show (putAll (T.set p.1 p.2) q).getD k ⟨#[]⟩ = _
    rw [h2]
    simp [List.getD, h1]
theorem putAll_length (q : List (Nat × ByteArray)) (T : List ByteArray) : (putAll T q).length = T.length := by
  induction q generalizing T with
  | nil => rfl
  | cons p q ih =>
    show (putAll (T.set p.1 p.2) q).length = _
    rw [ih, List.length_set]
theorem putAll_last (q : List (Nat × ByteArray)) (T : List ByteArray) (k m : Nat) (hm : m < q.length) (hk : k < T.length) (h1 : (q.getD m (0, ⟨#[]⟩)).1 = k) (h : ∀ j, m < j → j < q.length → (q.getD j (0, ⟨#[]⟩)).1 ≠ k) :
    (putAll T q).getD k ⟨#[]⟩ = (q.getD m (0, ⟨#[]⟩)).2 := by
  have e0 : q.getD m (0, ⟨#[]⟩) = q[m] := by simp [List.getD, hm]
  have e : q = q.take m ++ q[m] :: q.drop (m + 1) := by rw [← List.drop_eq_getElem_cons hm, List.take_append_drop]
  have e2 : putAll T q = putAll ((putAll T (q.take m)).set q[m].1 q[m].2) (q.drop (m + 1)) :=
    (congrArg (putAll T) e).trans (by simp only [putAll, List.foldl_append, List.foldl_cons])
  rw [e0] at h1
  rw [e2, putAll_none, e0, h1]
  · rw [getD_set _ _ _ _ _ (by rw [putAll_length]; exact hk), if_pos rfl]
  · intro p hp
    obtain ⟨j, hj, rfl⟩ := List.getElem_of_mem hp
    have hj' : m + 1 + j < q.length := by rw [List.length_drop] at hj; omega
    have := h (m + 1 + j) (by omega) hj'
    rw [List.getElem_drop]
    simpa [List.getD, hj'] using this

theorem get_end (F : Fence) (n : Nat) {w W : World} {T s : ByteArray} {D' R1 R2 : Nat} {tmps : Array Value} (ht4 : tmps.getD 4 undef = .pointer (some ⟨R1, 0, none⟩)) (ht5 : tmps.getD 5 undef = .pointer (some ⟨R2, 0, none⟩)) (hs : T = s) (hK : W.heap[D']? = some (.deferred (some []))) (c4 : W.cell? ⟨R1, 0, none⟩ = some (.string s)) (c5 : W.cell? ⟨R2, 0, none⟩ = some .nilIface)
    (hB : Below w.heap.size w W) (hD : w.heap.size ≤ D') :
    bodyPostM F n Tryd.prog Tryd.f50 (fun e W' => e = Ending.returned (Value.tuple #[.string T, .nilIface]) ∧ Below w.heap.size w W') Exit.ret { tmps := tmps, defers := [{ target := Target.collected D', args := #[] }] } W := by
  have d4 := cell_kept c4 (grownBy_putObj' _ D' (.deferred none)) (fun r e => by cases e; exact ⟨_, hK, rfl⟩)
  have d5 := cell_kept c5 (grownBy_putObj' _ D' (.deferred none)) (fun r e => by cases e; exact ⟨_, hK, rfl⟩)
  have ht4' : tmps[4]?.getD undef = .pointer (some ⟨R1, 0, none⟩) := by simpa using ht4
  have ht5' : tmps[5]?.getD undef = .pointer (some ⟨R2, 0, none⟩) := by simpa using ht5
  refine ⟨by simp, .inl ⟨_, _, rfl, run_takeDeferred hK, ?_⟩⟩
  refine ⟨.tuple #[.string s, .nilIface], ?_, by rw [hs], hB.trans (belowK_b (w := w) (Nat.le_refl _) W D' _ _ hD hK rfl rfl)⟩
  simp [results, Tryd.f50, go_sem, ht4', ht5', d4, d5]

set_option maxRecDepth 100000 in
set_option maxHeartbeats 4000000 in
theorem get_in (F : Fence) (n : Nat) (h3 : F.fn 50) (h4 : F.fn 96) (h5 : F.fn 131) (hro : F.round = none) (hn : 6 ≤ n)
    {w : World} {base b : Nat} {D : Dv} {m : Nat → Prop} (h : Dev w base b D m) (K : Nat) (hK : K < 2) (hl : D.q.length ≤ 65536) :
    CallsIn F n Tryd.prog 50 #[.pointer (some ⟨b, 0, none⟩), .int .i64 (K : Int)] w fun e W' => e = .returned (.tuple #[.string ((putAll D.T D.q).getD K ⟨#[]⟩), .nilIface]) ∧ Below w.heap.size w W' := by
  have h1 : 1 ≤ n := by omega
  obtain ⟨zs, wv, h0⟩ := h
  obtain ⟨a, cap, hf⟩ := h0.waitForm
  have kw := h0.cellW
  rw [hf] at kw
  obtain ⟨len, hlen⟩ : ∃ len, len = D.q.length := ⟨_, rfl⟩
  rw [← hlen] at kw
  have hWA : WritesAt w.heap.size w a D.q := fun hq => by
    obtain ⟨g, cap', hf', q1, q2⟩ := h0.waitAt 0 hq
    rw [hf] at hf'
    injection hf' with e1 e2 e3
    refine ⟨g, e1, block_lt_of_cell q1, fun j hj => ?_⟩
    obtain ⟨g2, cap2, hf2, r1, r2⟩ := h0.waitAt j hj
    rw [hf, e1] at hf2
    injection hf2 with e4 e5 e6
    injection e4 with e4
    injection e4 with e4 _ _
    subst e4
    exact ⟨r1, r2⟩
  have kt := h0.cellT K hK
  have kb := h0.blk.lt
  have hT2 := h0.ok.hT
  have HLEN := hide hlen
  have HL := hide hl
  have HWA := hide hWA
  have HT2 := hide hT2
  have hKK := hide hK
  have c1 : decide ((K : Int) < 0) = false := by simp
  have c2 : decide ((1 : Int) < (K : Int)) = false := by simp; omega
  have c2' : decide (1 < K) = false := by simp; omega
  have kw3 : (((w.alloc (.cells #[.int .i64 (K : Int)] 3)).alloc (.cells #[.string ⟨#[]⟩] 9)).alloc (.cells #[.nilIface] 32)).cell? ⟨b, 18, none⟩ = some (.slice a len cap) := by
    rw [World.cell?_alloc_lt _ _ _ (by simp; omega), World.cell?_alloc_lt _ _ _ (by simp; omega), World.cell?_alloc_lt _ _ _ kb]
    exact kw
  clear h0 hf hlen hWA hT2 hK hl
  refine callsIn_of_wp_marks Tryd.func50 rfl h3 ?_ hro
  simp only [Tryd.ntmps50, List.size_toArray, List.length_cons, List.length_nil, Nat.reduceAdd, Nat.reduceSub, Array.replicate_succ, Array.replicate_zero, List.push_toArray, List.append_toArray, List.nil_append, List.cons_append]
  gi_wp2_with (gi_at_call 96; refine (back_in F (n - 1) h4 hro _ _ _ _).mono ?_; rintro e w' ⟨rfl, rfl⟩)
  have bK := (((Boxed.new w 3 (.int .i64 (K : Int))).alloc (.cells #[.string ⟨#[]⟩] 9)).alloc (.cells #[.nilIface] 32)).alloc (.cells #[.slice a len cap] 100)
  have bS := ((Boxed.new (w.alloc (.cells #[.int .i64 (K : Int)] 3)) 9 (.string ⟨#[]⟩)).alloc (.cells #[.nilIface] 32)).alloc (.cells #[.slice a len cap] 100)
  have bE := (Boxed.new ((w.alloc (.cells #[.int .i64 (K : Int)] 3)).alloc (.cells #[.string ⟨#[]⟩] 9)) 32 .nilIface).alloc (.cells #[.slice a len cap] 100)
  have bN := Boxed.new (((w.alloc (.cells #[.int .i64 (K : Int)] 3)).alloc (.cells #[.string ⟨#[]⟩] 9)).alloc (.cells #[.nilIface] 32)) 100 (.slice a len cap)
  simp only [World.size_alloc] at bK bS bE bN
  have hB0 : Below w.heap.size w ((((w.alloc (.cells #[.int .i64 (K : Int)] 3)).alloc (.cells #[.string ⟨#[]⟩] 9)).alloc (.cells #[.nilIface] 32)).alloc (.cells #[.slice a len cap] 100)) :=
    ((((Below.refl _ w).alloc (Nat.le_refl _) _).alloc (by simp) _).alloc (by simp; omega) _).alloc (by simp; omega) _
  have hsz : ((((w.alloc (.cells #[.int .i64 (K : Int)] 3)).alloc (.cells #[.string ⟨#[]⟩] 9)).alloc (.cells #[.nilIface] 32)).alloc (.cells #[.slice a len cap] 100)).heap.size = w.heap.size + 4 := by simp
  obtain ⟨W0, hW0⟩ : ∃ W0, (((w.alloc (.cells #[.int .i64 (K : Int)] 3)).alloc (.cells #[.string ⟨#[]⟩] 9)).alloc (.cells #[.nilIface] 32)).alloc (.cells #[.slice a len cap] 100) = W0 := ⟨_, rfl⟩
  rw [hW0] at bK bS bE bN hB0 hsz ⊢
  clear hW0 kw3
  have hWA0 : WritesAt W0.heap.size W0 a D.q := fun hq => by
    obtain ⟨g, e1, e2, e3⟩ := (HWA.out.below hB0) hq
    exact ⟨g, e1, by omega, e3⟩
  refine wpIn_rangeFunc_ownH hro h1 (gf := 131) (lb := #[.pointer (some ⟨w.heap.size + 1 + 1 + 1, 0, none⟩)]) rfl h5 (enters_of Tryd.func131 (by kernel_rfl) rfl)
    (back_stops F (n - 1) h5 hro (by omega) (w.heap.size + 1 + 1 + 1) W0.heap.size len cap a D.q HLEN.out (by rw [HLEN.out]; exact HL.out) W0 (by omega) (Nat.le_refl _) bN.cell hWA0) belowK_t (belowK_b (Nat.le_refl _)) (Below.refl _ _) (fun _ => rfl)
    (fun pre W => (∀ p ∈ pre, p.2.1 ≠ K) ∧ Below W0.heap.size W0 W)
    (fun c pre W => (c = .ret ∧ ∃ ini last, pre = ini ++ [last] ∧ (∀ p ∈ ini, p.2.1 ≠ K) ∧ last.2.1 = K ∧ W.cell? ⟨w.heap.size + 1, 0, none⟩ = some (.string last.2.2) ∧ W.cell? ⟨w.heap.size + 1 + 1, 0, none⟩ = some .nilIface) ∧ Below w.heap.size w W)
    (OwnFrom.and (Own.from (fun s A B row hs hg hr => hs) _) (ownFrom_below (Nat.le_refl _) (Nat.le_refl _)))
    (fun c => OwnFrom.and (Own.from (fun s A B row hs hg hr => by obtain ⟨hc, ini, last, e1, e2, e3, e4, e5⟩ := hs; exact ⟨hc, ini, last, e1, e2, e3, cell_kept e4 hg hr, cell_kept e5 hg hr⟩) _) (ownFrom_below (Nat.le_refl _) (by omega)))
    ⟨by simp, Below.refl _ _⟩
    (fun x a' W => ∃ Bx, W.cell? ⟨Bx, 0, none⟩ = some (.int .i64 (x.2.1 : Int)) ∧ W.cell? ⟨Bx, 1, none⟩ = some (.string x.2.2) ∧ a' = { tmps := #[.pointer (some ⟨b, 0, none⟩), .int .i64 (K : Int), undef, .pointer (some ⟨w.heap.size, 0, none⟩), .pointer (some ⟨w.heap.size + 1, 0, none⟩), .pointer (some ⟨w.heap.size + 1 + 1, 0, none⟩), undef, .pointer (some ⟨Bx, 0, none⟩), .int .i64 (K : Int), .bool false, .bool false, .int .i64 (K : Int), .bool false, .bool false, undef, .pointer (some ⟨b, 0, none⟩), .pointer (some ⟨b, 0, none⟩), .pointer (some ⟨b, 18, none⟩), .slice a len cap, .func (.func 131) #[] #[.pointer (some ⟨w.heap.size + 1 + 1 + 1, 0, none⟩)], .int .i64 (x.1 : Int), .agg #[.int .i64 (x.2.1 : Int), .string x.2.2], undef, undef, undef, undef, undef, undef, undef, undef, undef, undef, undef, undef], defers := [] })
    (fun x a' _ X Y row hs hg hr => by obtain ⟨Bx, h1, h2, h3⟩ := hs; exact ⟨Bx, cell_kept h1 hg (fun r e => (hr r e).2), cell_kept h2 hg (fun r e => (hr r e).2), h3⟩)
    ?assign ?body ?done ?stop
  case assign =>
    rintro l pre x W KK ⟨hp, hB⟩ hK
    dsimp only [encW]
    gi_wp2
    have hN : Blk (W.alloc (.cells #[.int .i64 (x.2.1 : Int), .string x.2.2] 136)) W.heap.size 136 #[.int .i64 (x.2.1 : Int), .string x.2.2] := Blk.new _ _ _
    exact hK _ _ ((KeepsOthers.alloc _ _).from _) ((Below.refl _ W).alloc hB.size _) ⟨hp, hB.alloc hB.size _⟩ ⟨W.heap.size, hN.cell 0, hN.cell 1, rfl⟩
  case body =>
    rintro l pre x a' W hl ⟨r, hr⟩ ⟨hp, hB⟩ ⟨Bx, cx0, cx1, rfl⟩ hlt
    have cK := (hB.cell (p := ⟨w.heap.size, 0, none⟩) (by show w.heap.size < _; omega)).trans bK.cell
    have cS := (hB.cell (p := ⟨w.heap.size + 1, 0, none⟩) (by show w.heap.size + 1 < _; omega)).trans bS.cell
    have cE := (hB.cell (p := ⟨w.heap.size + 1 + 1, 0, none⟩) (by show w.heap.size + 1 + 1 < _; omega)).trans bE.cell
    have fS := (hB.frozen (p := ⟨w.heap.size + 1, 0, none⟩) (by show w.heap.size + 1 < _; omega)).trans bS.frozen
    have fE := (hB.frozen (p := ⟨w.heap.size + 1 + 1, 0, none⟩) (by show w.heap.size + 1 + 1 < _; omega)).trans bE.frozen
    by_cases hx : x.2.1 = K
    · rw [hx] at cx0
      gi_wp2
      refine ⟨((KeepsOthers.setCell W _ _).trans (KeepsOthers.setCell _ _ _)).from _, ⟨rfl, pre, x, rfl, hp, hx, ?_, ?_⟩, ((hB0.trans (hB.mono (by omega))).setCell (p := ⟨w.heap.size + 1, 0, none⟩) (Nat.le_succ _) _).setCell (p := ⟨w.heap.size + 1 + 1, 0, none⟩) (by show w.heap.size ≤ w.heap.size + 1 + 1; omega) _⟩
      · rw [World.cell?_setCell_other _ _ _ _ (by intro e; injection e with e1 _; omega)]
        exact World.cell?_setCell_same _ _ _ cS
      · exact World.cell?_setCell_same _ _ _ ((World.cell?_setCell_other _ _ _ _ (by intro e; injection e with e1 _; omega)).trans cE)
    · have d1 : ((x.2.1 : Int) == (K : Int)) = false := by simp; omega
      have d1' : (x.2.1 == K) = false := by simp; omega
      gi_wp2
      exact ⟨KeepsFrom.refl _ _, Below.refl _ _, ⟨fun p hp' => (List.mem_append.1 hp').elim (hp p) (fun e => by rw [List.mem_singleton.1 e]; exact hx), hB⟩⟩
  case done =>
    rintro D' ys W hD rfl ⟨hp, hB⟩ hK
    have cK := (hB.cell (p := ⟨w.heap.size, 0, none⟩) (by show w.heap.size < _; omega)).trans bK.cell
    have cS := (hB.cell (p := ⟨w.heap.size + 1, 0, none⟩) (by show w.heap.size + 1 < _; omega)).trans bS.cell
    have cE := (hB.cell (p := ⟨w.heap.size + 1 + 1, 0, none⟩) (by show w.heap.size + 1 + 1 < _; omega)).trans bE.cell
    have fS := (hB.frozen (p := ⟨w.heap.size + 1, 0, none⟩) (by show w.heap.size + 1 < _; omega)).trans bS.frozen
    have fE := (hB.frozen (p := ⟨w.heap.size + 1 + 1, 0, none⟩) (by show w.heap.size + 1 + 1 < _; omega)).trans bE.frozen
    have cT := ((hB.cell (p := ⟨b, 16 + K, none⟩) (by show b < _; omega)).trans (hB0.cell (p := ⟨b, 16 + K, none⟩) kb)).trans kt
    have ik1 : (K : Int) < 2 := by have := hKK.out; omega
    have ik2 : (0 : Int) ≤ (K : Int) := by omega
    have hne : ∀ p ∈ D.q, p.1 ≠ K := by
      intro p hpq
      obtain ⟨j, hj, rfl⟩ := List.getElem_of_mem hpq
      have h2 := hp (backF D.q (len - 1 - j)) (by
        unfold upTo
        exact List.mem_map.2 ⟨len - 1 - j, List.mem_range.2 (by rw [HLEN.out]; omega), rfl⟩)
      unfold backF at h2
      rw [show D.q.length - 1 - (len - 1 - j) = j from by rw [HLEN.out]; omega] at h2
      simpa [List.getD, hj] using h2
    have HNE := hide hne
    have HB := hide hB
    have HD := hide hD
    have HP := hide hp
    clear hne hB hD hp
    gi_wp2
    gi_region
    all_goals
      gi_wp2
      have hT : D.T[K]?.getD ⟨#[]⟩ = (putAll D.T D.q).getD K ⟨#[]⟩ := by rw [putAll_none D.q D.T K HNE.out]; rfl
      rw [hT]
      obtain ⟨s, hs⟩ : ∃ s, s = (putAll D.T D.q).getD K ⟨#[]⟩ := ⟨_, rfl⟩
      rw [← hs]
      obtain ⟨wF, hwF⟩ : ∃ wF, wF = ((W.setCell ⟨w.heap.size + 1, 0, none⟩ (.string s)).setCell ⟨w.heap.size + 1 + 1, 0, none⟩ .nilIface).drew := ⟨_, rfl⟩
      have hK' : wF.heap[D']? = some (.deferred (some [])) := by
        rw [hwF]
        exact ((KeepsOthers.setCell W ⟨w.heap.size + 1, 0, none⟩ (.string s)).trans (KeepsOthers.setCell _ ⟨w.heap.size + 1 + 1, 0, none⟩ .nilIface)).same D' _ hK rfl
      have c4 : wF.cell? ⟨w.heap.size + 1, 0, none⟩ = some (.string s) := by
        rw [hwF]
        refine (World.cell?_setCell_other _ _ _ _ (by intro e; injection e with e1 _; omega)).trans ?_
        exact World.cell?_setCell_same _ _ _ cS
      have c5 : wF.cell? ⟨w.heap.size + 1 + 1, 0, none⟩ = some .nilIface := by
        rw [hwF]
        exact World.cell?_setCell_same _ _ _ ((World.cell?_setCell_other _ _ _ _ (by intro e; injection e with e1 _; omega)).trans cE)
      have hBF : Below w.heap.size w wF := by
        rw [hwF]
        exact (((hB0.trans (HB.out.mono (by omega))).setCell (p := ⟨w.heap.size + 1, 0, none⟩) (Nat.le_succ _) _).setCell (p := ⟨w.heap.size + 1 + 1, 0, none⟩) (by show w.heap.size ≤ w.heap.size + 1 + 1; omega) _).drew
      rw [← hwF]
      exact get_end F n rfl rfl rfl hK' c4 c5 hBF (by have := HD.out; omega)
  case stop =>
    rintro D' c pre W hD ⟨k, hk, rfl⟩ ⟨⟨rfl, ini, last, e1, e2, e3, e4, e5⟩, hB⟩ hK
    obtain ⟨k', rfl⟩ : ∃ k', k = k' + 1 := by
      cases k with
      | zero => simp [upTo] at e1
      | succ k' => exact ⟨k', rfl⟩
    rw [upTo_succ] at e1
    obtain ⟨hini, hlast⟩ := List.append_inj' e1 rfl
    have hlast2 : backF D.q k' = last := by simpa using hlast
    have hs : (putAll D.T D.q).getD K ⟨#[]⟩ = last.2.2 := by
      have hlen := HLEN.out
      rw [← hlast2]
      unfold backF at hlast2 ⊢
      refine putAll_last D.q D.T K (D.q.length - 1 - k') (by omega) (by rw [HT2.out]; exact hKK.out) ?_ ?_
      · rw [← e3, ← hlast2]
      · intro j hj1 hj2
        have h2 := e2 (backF D.q (D.q.length - 1 - j)) (by
          rw [← hini]
          unfold upTo
          exact List.mem_map.2 ⟨D.q.length - 1 - j, List.mem_range.2 (by omega), rfl⟩)
        unfold backF at h2
        rw [show D.q.length - 1 - (D.q.length - 1 - j) = j from by omega] at h2
        exact h2
    have HS := hide hs
    have HD := hide hD
    have HB := hide hB
    clear hs hD hB e1 e2 e3 hini hlast hlast2
    gi_wp2
    exact get_end F n rfl rfl HS.out hK e4 e5 HB.out (by have := HD.out; omega)

theorem get_badEnd (w : World) (k : Int) (tmps : Array Value) (ht4 : tmps.getD 4 undef = .pointer (some ⟨w.heap.size + 1, 0, none⟩)) (ht5 : tmps.getD 5 undef = .pointer (some ⟨w.heap.size + 1 + 1, 0, none⟩)) (n : Int) :
    bodyPost Tryd.prog Tryd.f50 (fun e w' => e = Ending.returned (Value.tuple #[.string ⟨#[]⟩, .iface 35 (.int .i64 n)]) ∧ Below w.heap.size w w') Exit.ret { tmps := tmps, defers := [] }
      (((w.alloc (.cells #[.int .i64 k] 3)).alloc (.cells #[.string ⟨#[]⟩] 9)).alloc (.cells #[.iface 35 (.int .i64 n)] 32)) := by
  have bS := (Boxed.new (w.alloc (.cells #[.int .i64 k] 3)) 9 (.string ⟨#[]⟩)).alloc (.cells #[.iface 35 (.int .i64 n)] 32)
  have bE := (Boxed.new ((w.alloc (.cells #[.int .i64 k] 3)).alloc (.cells #[.string ⟨#[]⟩] 9)) 32 (.iface 35 (.int .i64 n)))
  simp only [World.size_alloc] at bS bE
  have hB0 : Below w.heap.size w (((w.alloc (.cells #[.int .i64 k] 3)).alloc (.cells #[.string ⟨#[]⟩] 9)).alloc (.cells #[.iface 35 (.int .i64 n)] 32)) :=
    (((Below.refl _ w).alloc (Nat.le_refl _) _).alloc (by simp) _).alloc (by simp; omega) _
  have d4 := bS.cell
  have d5 := bE.cell
  have ht4' : tmps[4]?.getD undef = .pointer (some ⟨w.heap.size + 1, 0, none⟩) := by simpa using ht4
  have ht5' : tmps[5]?.getD undef = .pointer (some ⟨w.heap.size + 1 + 1, 0, none⟩) := by simpa using ht5
  generalize ((w.alloc (.cells #[.int .i64 k] 3)).alloc (.cells #[.string ⟨#[]⟩] 9)).alloc (.cells #[.iface 35 (.int .i64 n)] 32) = W at *
  refine bodyPost_ret (v := .tuple #[.string ⟨#[]⟩, .iface 35 (.int .i64 n)]) ?_ rfl ⟨rfl, hB0⟩
  simp [results, Tryd.f50, go_sem, ht4', ht5', d4, d5]
theorem get_bad (b : Nat) (k : Int) (hk : k < 0 ∨ 1 < k) (w : World) :
    Calls Tryd.prog 50 #[.pointer (some ⟨b, 0, none⟩), .int .i64 k] w fun e w' => e = .returned (.tuple #[.string ⟨#[]⟩, .iface 35 (.int .i64 2)]) ∧ Below w.heap.size w w' := by
  by_cases h1 : k < 0
  · have c1 : decide (k < 0) = true := by simpa using h1
    clear hk
    go_enter Tryd.func50, Tryd.ntmps50
    go_wp2_with fail
    exact get_badEnd w k _ rfl rfl 2
  · have c1 : decide (k < 0) = false := by simpa using h1
    have c2 : decide (1 < k) = true := by simp; omega
    clear hk
    go_enter Tryd.func50, Tryd.ntmps50
    go_wp2_with fail
    exact get_badEnd w k _ rfl rfl 2
theorem get_any {w : World} {base b : Nat} {D : Dv} {m : Nat → Prop} (h : Dev w base b D m) (k : Int) (hl : D.q.length ≤ 65536) :
    Calls Tryd.prog 50 #[.pointer (some ⟨b, 0, none⟩), .int .i64 k] w fun e w' => e = .returned (.tuple #[.string (getR D k).1, errZ (getR D k).2]) ∧ Below w.heap.size w w' := by
  by_cases hk : k < 0 ∨ 1 < k
  · have e : getR D k = (⟨#[]⟩, 2) := by unfold getR; rw [if_pos hk]
    rw [e]
    exact get_bad b k hk w
  · obtain ⟨K, rfl⟩ := Int.eq_ofNat_of_zero_le (show 0 ≤ k by omega)
    have e : getR D (K : Int) = ((putAll D.T D.q).getD K ⟨#[]⟩, 0) := by unfold getR; rw [if_neg hk]; simp
    rw [e]
    exact (callsIn_wide (n := 6)).1 (get_in Fence.wide 6 trivial trivial trivial rfl (by omega) h K (by omega) hl)
end Go.Proofs.YtmligbaalbbgiabDoor

/- api.Tell, plain.Place and salternlaw.bare, of an error that is nil or an Errno. Condition: the package variable errors.errorType holds its handle. -/
import Derived.Test.YtmligbaalbbgiabGreatDoorAs
namespace Go.Proofs.YtmligbaalbbgiabGreatDoor
open Go.RowKit

/-- The variable errors.errorType holds its handle. -/
def LaidE (w : World) : Prop := w.cell? ⟨0, 0, none⟩ = some (.iface 143 (.agg #[.pointer (some ⟨9, 28, none⟩)]))
theorem LaidE.lt {w : World} (h : LaidE w) : 0 < w.heap.size := by
  rcases Nat.lt_or_ge 0 w.heap.size with h1 | h1
  · exact h1
  · unfold LaidE at h; simp [World.cell?, Array.getElem?_eq_none h1] at h
theorem LaidE.below {w w' : World} (h : LaidE w) (hb : Below w.heap.size w w') : LaidE w' := (hb.cell (p := ⟨0, 0, none⟩) h.lt).trans h
theorem LaidE.drewN {w : World} (h : LaidE w) (n : Nat) : LaidE (w.drewN n) := h

theorem as_errno (n : Int) (t : Addr) (old : Value) (w : World) (hg : LaidE w) (ht0 : w.cell? t = some old) (hf0 : w.frozen? t = false) :
    Calls Tryz.prog 57 #[.iface 24 (.int .i64 n), .iface 92 (.pointer (some t))] w fun ev w' => ev = .returned (.bool true) ∧ w'.cell? t = some (.int .i64 n) ∧ Below t.block w w' := by
  have htl : t.block < w.heap.size := by
    rcases Nat.lt_or_ge t.block w.heap.size with h | h
    · exact h
    · simp [World.cell?, Array.getElem?_eq_none h] at ht0
  refine (as_hit n t old w hg ht0 hf0).mono fun ev w' ⟨he, hw⟩ => ⟨he, ?_, ?_⟩
  · rw [hw]
    refine World.cell?_setCell_same _ _ _ (u := old) ?_
    rw [World.cell?_alloc_lt _ _ t (by simp; omega), World.cell?_alloc_lt _ _ t (by simp; omega), World.cell?_alloc_lt _ _ t (by simp; omega), World.cell?_alloc_lt _ _ t htl]
    exact ht0
  · rw [hw]
    exact (((((Below.refl _ _).alloc (by omega) _).alloc (by simp; omega) _).alloc (by simp; omega) _).alloc (by simp; omega) _).setCell (Nat.le_refl _) _

theorem tell_nil (w : World) : Calls Tryz.prog 38 #[.nilIface] w fun e w' => e = .returned (.int .i64 0) ∧ w = w' := by
  go_enter Tryz.func38, Tryz.ntmps38
  go_wp2
  go_ret
  exact ⟨rfl, rfl⟩

set_option maxHeartbeats 1000000 in
theorem tell_errno (n : Int) (w : World) (hg : LaidE w) : Calls Tryz.prog 38 #[.iface 24 (.int .i64 n)] w fun e w' => e = .returned (.int .i64 n) ∧ Below w.heap.size w w' := by
  have hg1 : LaidE (w.alloc (.cells #[.int .i64 0] 24)) := hg.below ((Below.refl _ _).alloc (Nat.le_refl _) _)
  have hc1 : (w.alloc (.cells #[.int .i64 0] 24)).cell? ⟨w.heap.size, 0, none⟩ = some (.int .i64 0) := by simp
  have hf1 : (w.alloc (.cells #[.int .i64 0] 24)).frozen? ⟨w.heap.size, 0, none⟩ = false := by simp
  have hcall := as_errno n ⟨w.heap.size, 0, none⟩ _ _ hg1 hc1 hf1
  have HC := hide hcall
  clear hg1 hc1 hf1 hcall
  go_enter Tryz.func38, Tryz.ntmps38
  go_wp2_with (go_at_call 57; refine (HC.out).mono ?_; rintro e w1 ⟨rfl, hc, hb⟩)
  go_ret
  exact ⟨rfl, ((Below.refl _ _).alloc (Nat.le_refl _) _).trans hb⟩

theorem noUnwrap (v : Value) (xT : TypeId) (w : World) : (Instr.typeAssert (.iface 24 v) xT 74 true).run Tryz.prog w = .ok (.tuple #[.nilIface, .bool false]) w :=
  run_typeAssert_lacksB Tryz.underlying74 (by kernel_rfl) (by kernel_rfl) v xT w

theorem noAt (v : Value) (w : World) : (Instr.typeAssert (.iface 24 v) 28 70 true).run Tryz.prog w = .ok (.tuple #[.pointer none, .bool false]) w := by kernel_rfl

theorem place_nil (w : World) : Calls Tryz.prog 23 #[.nilIface] w fun e w' => e = .returned (.tuple #[.int .i64 0, .int .i64 (-1)]) ∧ w = w' := by
  go_enter Tryz.func23, Tryz.ntmps23
  go_wp2_with (go_at_call 38; refine (tell_nil _).mono ?_; rintro e w1 ⟨rfl, rfl⟩)
  refine wp_loop_rounds 1 ?_
  rw [rounds_succ]
  go_wp2
  go_ret2
  exact ⟨rfl, rfl⟩

set_option maxRecDepth 100000 in
set_option maxHeartbeats 1000000 in
theorem place_errno (n : Int) (w : World) (hg : LaidE w) : Calls Tryz.prog 23 #[.iface 24 (.int .i64 n)] w fun e w' => e = .returned (.tuple #[.int .i64 n, .int .i64 (-1)]) ∧ Below w.heap.size w w' := by
  have hn := noUnwrap (.int .i64 n)
  have ha := noAt (.int .i64 n)
  have HG := hide hg
  clear hg
  go_enter Tryz.func23, Tryz.ntmps23
  go_wp2_with (go_at_call 38; refine (tell_errno n _ HG.out).mono ?_; rintro e w1 ⟨rfl, hb⟩)
  refine wp_loop_rounds 1 ?_
  rw [rounds_succ]
  go_wp2
  go_ret2
  exact ⟨rfl, hb⟩

/-- bare, where there is no error. -/
theorem bare_nil (n : Int) (w : World) : Calls Tryz.prog 7 #[.nilIface, .int .i64 n] w fun e w' => e = .returned (.bool (decide (n = 0))) ∧ w = w' := by
  by_cases h : n = 0
  · subst h
    go_enter Tryz.func7, Tryz.ntmps7
    go_wp2_with (go_at_call 23; refine (place_nil _).mono ?_; rintro e w1 ⟨rfl, rfl⟩)
    go_ret
    exact ⟨rfl, rfl⟩
  · have h1 : ((0 : Int) == n) = false := by simp; omega
    have h2 : decide (n = 0) = false := by simp [h]
    rw [h2]
    clear h h2
    go_enter Tryz.func7, Tryz.ntmps7
    go_wp2_with (go_at_call 23; refine (place_nil _).mono ?_; rintro e w1 ⟨rfl, rfl⟩)
    go_ret
    exact ⟨rfl, rfl⟩
/-- bare, where the error is the Errno m. -/
theorem bare_errno (m n : Int) (w : World) (hg : LaidE w) : Calls Tryz.prog 7 #[.iface 24 (.int .i64 m), .int .i64 n] w fun e w' => e = .returned (.bool (decide (n = m))) ∧ Below w.heap.size w w' := by
  have HG := hide hg
  clear hg
  by_cases h : n = m
  · subst h
    have h2 : decide (n = n) = true := by simp
    rw [h2]
    go_enter Tryz.func7, Tryz.ntmps7
    go_wp2_with (go_at_call 23; refine (place_errno _ _ HG.out).mono ?_; rintro e w1 ⟨rfl, hb⟩)
    go_ret
    exact ⟨rfl, hb⟩
  · have h1 : (m == n) = false := by simp; omega
    have h2 : decide (n = m) = false := by simp [h]
    rw [h2]
    clear h h2
    go_enter Tryz.func7, Tryz.ntmps7
    go_wp2_with (go_at_call 23; refine (place_errno _ _ HG.out).mono ?_; rintro e w1 ⟨rfl, hb⟩)
    go_ret
    exact ⟨rfl, hb⟩
end Go.Proofs.YtmligbaalbbgiabGreatDoor

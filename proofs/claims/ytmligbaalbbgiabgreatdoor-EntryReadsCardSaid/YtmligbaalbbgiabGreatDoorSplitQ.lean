/- strings.SplitSeq at a separator of one byte: what its iterator yields. Condition: the text is shorter than 2^32. -/
import Derived.Test.YtmligbaalbbgiabGreatDoorSeqSt
import Derived.Test.YtmligbaalbbgiabGreatDoorEntryV
import Derived.Shelf.Abstract
import Derived.OwnWalkIn
import Derived.TacticsInMore
import Derived.LoopNIn
import Derived.LoopIn
namespace Go.Proofs.YtmligbaalbbgiabGreatDoor
open Go.RowKit Go.Shelf

attribute [local go_sem] Oper.semAt_some

/-- A line: no longer than any text here. -/
abbrev Ln := { x : List UInt8 // x.length ≤ 65536 }
def encT (x : Ln) : Array Value := #[.string (ofl x.1)]
theorem cutL_len (c : UInt8) (l : List UInt8) : ∀ x ∈ cutL c l, x.length ≤ l.length := by
  induction l with
  | nil => simp [cutL]
  | cons a r ih =>
    intro x hx
    rw [cutL.eq_2] at hx
    split at hx
    · rcases List.mem_cons.1 hx with e | e
      · rw [e]; simp
      · have := ih x e; simp; omega
    · split at hx
      · rename_i e
        exact absurd e (cutL_ne c r)
      · rename_i y t e
        rcases List.mem_cons.1 hx with e2 | e2
        · have := ih y (by rw [e]; exact List.mem_cons_self ..)
          rw [e2]; simp; omega
        · have := ih x (by rw [e]; exact List.mem_cons_of_mem _ e2); simp; omega
theorem lines_ex (l : List (List UInt8)) (h : ∀ x ∈ l, x.length ≤ 65536) : ∃ ps : List Ln, ps.map (·.1) = l := by
  induction l with
  | nil => exact ⟨[], rfl⟩
  | cons a r ih =>
    obtain ⟨ps, e⟩ := ih (fun x hx => h x (List.mem_cons_of_mem _ hx))
    exact ⟨⟨a, h a (List.mem_cons_self ..)⟩ :: ps, by rw [List.map_cons, e]⟩
/-- The iterator's own step: its variable is another one. -/
def StepB (B : Nat) (X Y : World) : Prop := ∃ v, Y = X.setCell ⟨B, 0, none⟩ v
/-- What a round must keep: the iterator's three variables. -/
def Keep3 (B : Nat) (X Y : World) : Prop := ∀ k, k < 3 → Y.heap[B + k]? = X.heap[B + k]?

def lenAt (B : Nat) (W : World) : Nat := match W.cell? ⟨B, 0, none⟩ with
  | some (.string s) => s.size
  | _ => 0

set_option maxRecDepth 100000 in
set_option maxHeartbeats 4000000 in
theorem splitSeq1_in (n : Nat) (hn : 1 ≤ n) (l B : Nat) (s : ByteArray) (ps : List Ln) (hs : s.size ≤ 4294967280) (hps : ps.map (·.1) = cutL 10 (bl s)) (J Jx : List Ln → World → Prop)
    (hJ : ∀ t X Y, J t X → StepB B X Y → J t Y)
    (hY : ∀ pre x W, J pre W → pre.length < ps.length → YieldAt Fence.wide (n - 1) Tryz.prog l (encT x) W fun e W' =>
      (e = .returned (.bool true) ∧ J (pre ++ [x]) W' ∧ Keep3 B W W') ∨ (e = .returned (.bool false) ∧ Jx (pre ++ [x]) W'))
    (W : World) (b0 : Boxed W B 9 (.string s)) (b1 : Boxed W (B + 1) 9 (.string ⟨#[10]⟩)) (b2 : Boxed W (B + 2) 3 (.int .i64 0)) (h0 : J [] W) :
    CallsIn Fence.wide n Tryz.prog 71 #[.func (.yield l) #[] #[], .pointer (some ⟨B + 1, 0, none⟩), .pointer (some ⟨B, 0, none⟩), .pointer (some ⟨B + 2, 0, none⟩)] W fun e W' => (∃ v, e = .returned v) ∧
      ((∃ ys, ys = ps ∧ J ys W') ∨ (∃ pre, (∃ k, pre = ps.take k) ∧ Jx pre W')) := by
  refine callsIn_of_wp Tryz.func71 rfl trivial ?_ rfl
  simp only [Tryz.ntmps71, List.size_toArray, List.length_cons, List.length_nil, Nat.reduceAdd, Nat.reduceSub, Array.replicate_succ, Array.replicate_zero, List.push_toArray, List.append_toArray, List.nil_append, List.cons_append]
  have c1 := b1.cell
  have HXS := hide hps
  have HS := hide hs
  clear hps hs
  gi_wp2
  clear c1
  gi_loopw [7] (fun _ wr => ∃ (k : Nat) (r : ByteArray), Boxed wr B 9 (.string r) ∧ Boxed wr (B + 1) 9 (.string ⟨#[10]⟩) ∧ Boxed wr (B + 2) 3 (.int .i64 0) ∧ r.size ≤ s.size ∧ k < ps.length ∧ (ps.drop k).map (·.1) = cutL 10 (bl r) ∧ J (ps.take k) wr) (fun _ wr => lenAt B wr)
  case atStart => exact ⟨0, s, b0, b1, b2, Nat.le_refl _, by have h := congrArg List.length HXS.out; rw [List.length_map, cutL_length] at h; omega, by rw [List.drop_zero]; exact HXS.out, h0⟩
  case round =>
    obtain ⟨k, r, hb0, hb1, hb2, hrs, hk, hcut, hJs⟩ := hrel
    have c0 := hb0.cell
    have c1 := hb1.cell
    have c2 := hb2.cell
    obtain ⟨ix, hix⟩ : ∃ ix, ix = Lib.indexByte (bl r) 10 := ⟨_, rfl⟩
    have hidx := Go.Proofs.Tryz.strings_Index_one r 10 wr
    have hix2 : Lib.indexByte r.data.toList 10 = ix := hix.symm
    rw [hix2] at hidx
    have HX := hide (hidx.mono fun e w' ⟨he, hw⟩ => (⟨he, hw.symm⟩ : e = _ ∧ wr = w'))
    have hindex : Lib.index (bl r) [10] = ix := by rw [Lib.index_one, hix]
    have hge := Lib.index_ge (bl r) [10]
    have hle := Lib.index_le (bl r) [10]
    rw [hindex] at hge hle
    clear hidx hix2 hix
    by_cases hneg : ix = -1
    · subst hneg
      have hcr := cutL_index_none 10 (bl r) hindex
      obtain ⟨p, hp⟩ : ∃ p, p = ps[k] := ⟨_, rfl⟩
      have hdk : ps.drop k = p :: ps.drop (k + 1) := by rw [hp]; exact List.drop_eq_getElem_cons hk
      have hp1 : p.1 = bl r ∧ ps.drop (k + 1) = [] := by
        rw [hdk, hcr, List.map_cons] at hcut
        injection hcut with h1 h2
        exact ⟨h1, by simpa using h2⟩
      have hlast : ps = ps.take k ++ [p] := by
        have h := (List.take_append_drop k ps).symm
        rw [hdk, hp1.2] at h
        exact h
      obtain ⟨fn, tmps, assign, body, hy, hR⟩ := hY _ p wr hJs (by rw [List.length_take]; omega)
      dsimp only [encT] at hy
      rw [hp1.1, ofl_bl] at hy
      have HLA := hide hlast
      clear hcr hlast hcut hindex hge hle hp hdk hp1
      gi_wp2_with (refine ⟨trivial, ?_⟩; gi_at_call 65; refine (callsIn_wide.2 HX.out).mono ?_; rintro e w1 ⟨rfl, rfl⟩)
      refine hR.mono ?_
      rintro e W3 (⟨rfl, hJ3, hk3⟩ | ⟨rfl, hJx3⟩)
      · gi_wp2
        go_end0
        exact ⟨⟨_, rfl⟩, .inl ⟨_, rfl, by rw [HLA.out]; exact hJ3⟩⟩
      · gi_wp2
        go_end0
        exact ⟨⟨_, rfl⟩, .inr ⟨_, ⟨ps.length, by rw [List.take_length]⟩, by rw [HLA.out]; exact hJx3⟩⟩
    · obtain ⟨i, rfl⟩ := Int.eq_ofNat_of_zero_le (show 0 ≤ ix by omega)
      have hir : i < r.size := by
        have h1 : (bl r).length = r.size := bl_length r
        have h2 := index_lt 10 (bl r) i hindex
        omega
      have hcs := cutL_index_some 10 (bl r) i hindex
      obtain ⟨x, hx⟩ : ∃ p, p = ps[k] := ⟨_, rfl⟩
      have hdk : ps.drop k = x :: ps.drop (k + 1) := by rw [hx]; exact List.drop_eq_getElem_cons hk
      have hx1 : x.1 = (bl r).take i ∧ (ps.drop (k + 1)).map (·.1) = cutL 10 ((bl r).drop (i + 1)) := by
        rw [hdk, hcs, List.map_cons] at hcut
        injection hcut with h1 h2
        exact ⟨h1, h2⟩
      obtain ⟨r2, hr2⟩ : ∃ r2, r2 = r.extract (i + 1) r.size := ⟨_, rfl⟩
      have hbr2 : bl r2 = (bl r).drop (i + 1) := by
        rw [hr2, bl_extract, List.take_of_length_le (by rw [List.length_drop, bl_length]; omega)]
      have hxe : ofl x.1 = r.extract 0 i := by
        apply bl_inj
        rw [bl_ofl, hx1.1, bl_extract]
        simp
      have hk1 : k + 1 < ps.length := by
        have h := congrArg List.length hx1.2
        have h2 := cutL_length 10 ((bl r).drop (i + 1))
        rw [List.length_map, List.length_drop] at h
        omega
      have htk : ps.take (k + 1) = ps.take k ++ [x] := by
        rw [List.take_succ_eq_append_getElem hk, hx]
      have hcut2 : (ps.drop (k + 1)).map (·.1) = cutL 10 (bl r2) := by rw [hbr2]; exact hx1.2
      obtain ⟨fn, tmps, assign, body, hy, hR⟩ := hY _ x wr hJs (by rw [List.length_take]; omega)
      dsimp only [encT] at hy
      rw [hxe] at hy
      have HTK := hide htk
      have HC2 := hide hcut2
      have HR2 := hide hr2
      have hs9 := HS.out
      have hw1 : wrap64 ((i : Int) + 1) = ((i + 1 : Nat) : Int) := by simp only [wrap64]; omega
      have i1 : i + 1 ≤ r.size := by omega
      have i0 : i ≤ r.size := by omega
      clear hcut hcs hx hr2 hbr2 hxe htk hcut2 hindex hge hle hdk hx1
      gi_wp2_with (refine ⟨trivial, ?_⟩; gi_at_call 65; refine (callsIn_wide.2 HX.out).mono ?_; rintro e w1 ⟨rfl, rfl⟩)
      refine hR.mono ?_
      rintro e W3 (⟨rfl, hJ3, hk3⟩ | ⟨rfl, hJx3⟩)
      · have b0' : Boxed W3 B 9 (.string r) := (hk3 0 (by omega)).trans hb0
        have b1' : Boxed W3 (B + 1) 9 (.string ⟨#[10]⟩) := (hk3 1 (by omega)).trans hb1
        have b2' : Boxed W3 (B + 2) 3 (.int .i64 0) := (hk3 2 (by omega)).trans hb2
        have d0 := b0'.cell
        have d1 := b1'.cell
        have f0 := b0'.frozen
        rw [← HTK.out] at hJ3
        have HJ3 := hide hJ3
        clear hJ3 hk3
        gi_wp2
        go_roundw
        case rel =>
          refine ⟨k + 1, r2, ?_, ?_, ?_, by rw [HR2.out, ByteArray.size_extract]; omega, hk1, HC2.out, hJ _ _ _ HJ3.out ⟨_, rfl⟩⟩
          · rw [HR2.out]; exact b0'.set _
          · exact b1'.other (by omega) _
          · exact b2'.other (by omega) _
        case measure =>
          have e1 : lenAt B wr = r.size := by unfold lenAt; rw [hb0.cell]
          have e2 : lenAt B (W3.setCell ⟨B, 0, none⟩ (.string (r.extract (i + 1) r.size))) = r.size - (i + 1) := by
            unfold lenAt
            rw [(b0'.set (.string (r.extract (i + 1) r.size))).cell]
            simp
          rw [e2, e1]
          omega
      · gi_wp2
        refine bodyPost_ret (results_none rfl _ _ _) rfl ?_
        exact ⟨⟨_, rfl⟩, .inr ⟨_, ⟨k + 1, rfl⟩, by rw [HTK.out]; exact hJx3⟩⟩

/-- The iterator's contract. -/
theorem splitSeq1_st (n : Nat) (hn : 1 ≤ n) (B : Nat) (s : ByteArray) (ps : List Ln) (hs : s.size ≤ 4294967280) (hps : ps.map (·.1) = cutL 10 (bl s)) (w : World) (b0 : Boxed w B 9 (.string s)) (b1 : Boxed w (B + 1) 9 (.string ⟨#[10]⟩)) (b2 : Boxed w (B + 2) 3 (.int .i64 0)) :
    SeqSt Fence.wide n Tryz.prog 71 #[.pointer (some ⟨B + 1, 0, none⟩), .pointer (some ⟨B, 0, none⟩), .pointer (some ⟨B + 2, 0, none⟩)] encT (StepB B) (Keep3 B)
      (fun ys => ys = ps) (fun pre => ∃ k, pre = ps.take k) ps.length w := fun l J Jx W hW hJ _ hY h0 =>
  splitSeq1_in n hn l B s ps hs hps J Jx hJ hY W ((hW.block B b0.lt).trans b0) ((hW.block (B + 1) b1.lt).trans b1) ((hW.block (B + 2) b2.lt).trans b2) h0

theorem splitSeq_in (n : Nat) (hn : 1 ≤ n) (s : ByteArray) (w : World) :
    CallsIn Fence.wide n Tryz.prog 52 #[.string s, .string ⟨#[10]⟩, .int .i64 0] w fun e w' =>
      e = .returned (.func (.func 71) #[] #[.pointer (some ⟨w.heap.size + 1, 0, none⟩), .pointer (some ⟨w.heap.size, 0, none⟩), .pointer (some ⟨w.heap.size + 2, 0, none⟩)]) ∧
      w' = ((w.alloc (.cells #[.string s] 9)).alloc (.cells #[.string ⟨#[10]⟩] 9)).alloc (.cells #[.int .i64 0] 3) := by
  refine callsIn_of_wp Tryz.func52 rfl trivial ?_ rfl
  simp only [Tryz.ntmps52, List.size_toArray, List.length_cons, List.length_nil, Nat.reduceAdd, Nat.reduceSub, Array.replicate_succ, Array.replicate_zero, List.push_toArray, List.append_toArray, List.nil_append, List.cons_append]
  gi_wp2
  go_ret
  exact ⟨rfl, rfl⟩
theorem SplitSeq_in (n : Nat) (hn : 2 ≤ n) (s : ByteArray) (w : World) :
    CallsIn Fence.wide n Tryz.prog 32 #[.string s, .string ⟨#[10]⟩] w fun e w' =>
      e = .returned (.func (.func 71) #[] #[.pointer (some ⟨w.heap.size + 1, 0, none⟩), .pointer (some ⟨w.heap.size, 0, none⟩), .pointer (some ⟨w.heap.size + 2, 0, none⟩)]) ∧
      w' = ((w.alloc (.cells #[.string s] 9)).alloc (.cells #[.string ⟨#[10]⟩] 9)).alloc (.cells #[.int .i64 0] 3) := by
  refine callsIn_of_wp Tryz.func32 rfl trivial ?_ rfl
  simp only [Tryz.ntmps32, List.size_toArray, List.length_cons, List.length_nil, Nat.reduceAdd, Nat.reduceSub, Array.replicate_succ, Array.replicate_zero, List.push_toArray, List.append_toArray, List.nil_append, List.cons_append]
  have h1 : 1 ≤ n - 1 := by omega
  have h9 : 1 ≤ n := by omega
  have HH := hide (splitSeq_in (n - 1) h1 s w)
  gi_wp2_with (refine ⟨trivial, ?_⟩; gi_at_call 52; refine HH.out.mono ?_; rintro e w1 ⟨rfl, rfl⟩)
  go_ret
  exact ⟨rfl, rfl⟩
end Go.Proofs.YtmligbaalbbgiabGreatDoor

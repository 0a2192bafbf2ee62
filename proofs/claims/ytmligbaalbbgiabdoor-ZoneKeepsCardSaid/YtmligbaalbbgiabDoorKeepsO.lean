/- Operations and an image among the arguments of salternlaw.ZoneKeeps, opened. No condition. -/
import Derived.Test.YtmligbaalbbgiabDoorKeepsB
import Derived.Test.YtmligbaalbbgiabDoorOpen
namespace Go.Proofs.YtmligbaalbbgiabDoor
open Go.ChangeShapes Go.WideShapes Go.RowKit

section
variable {H : Type} {enc : TypeId × Value → H} {W : World} {spare : Nat → Bool} {held : Bool}
theorem ko_int : Tryd.prog.cellsOf 3 = 1 := by kernel_rfl
theorem ko_str : Tryd.prog.cellsOf 9 = 1 := by kernel_rfl
theorem ko_ints : Tryd.prog.cellsOf 23 = 1 := by kernel_rfl
theorem ko_bools : Tryd.prog.cellsOf 61 = 1 := by kernel_rfl
theorem ko_strs : Tryd.prog.cellsOf 22 = 1 := by kernel_rfl
theorem ko_bool : Tryd.prog.cellsOf 4 = 1 := by kernel_rfl
theorem ko_op : Tryd.prog.cellsOf 63 = 5 := by kernel_rfl
theorem ko_zones : Tryd.prog.cellsOf 29 = 8 := by kernel_rfl
theorem ko_slots : Tryd.prog.cellsOf 55 = 2 := by kernel_rfl
theorem ko_img : Tryd.prog.cellsOf 57 = 10 := by kernel_rfl

theorem slice_is {P : Program} {t e : TypeId} {fuel : Nat} {cs : List Value} {x : DataW H × List MemPlace} {base : Nat} (ht : P.underlying t = some (.slice e)) (h : DataW.trod enc P W base spare held fuel t cs = some x) : ∃ a l c, cs = [.slice a l c] := by
  rcases slice_parts ht h with rfl | ⟨a, len, cap, m, rfl, _⟩
  · exact ⟨none, 0, 0, rfl⟩
  · exact ⟨some a, len, cap, rfl⟩
theorem take_one {α : Type} (l : List α) (z : Nat) (h : z < l.length) (d : α) : (l.drop z).take 1 = [l.getD z d] := by
  have e : l.getD z d = l[z] := by simp [List.getD, h]
  rw [List.drop_eq_getElem_cons h, e]
  rfl
theorem five {α : Type} {cs : List α} (h : cs.length = 5) : ∃ c0 c1 c2 c3 c4, cs = [c0, c1, c2, c3, c4] := by
  match cs, h with
  | [c0, c1, c2, c3, c4], _ => exact ⟨c0, c1, c2, c3, c4, rfl⟩
set_option maxRecDepth 100000 in
theorem op_open {fuel : Nat} {cs : List Value} {x : DataW H × List MemPlace} (h : DataW.trod enc Tryd.prog W 0 spare held fuel 63 cs = some x) :
    ∃ o : OpD, cs = o.cells.toList ∧ o.at_ < 9223372036854775808 ∧ IntsArg W (fun _ => False) o.kA o.ks ∧ BoolsArg W (fun _ => False) o.sA o.sl := by
  obtain ⟨xs, n, rfl, _, hl, hxl, hall⟩ := DataW.trod_struct Tryd.underlying63 h
  have hl5 : cs.length = 5 := hl.trans ko_op
  have hx5 : xs.length = 5 := hxl
  have e0 : DataW.trod enc Tryd.prog W 0 spare held n 3 ((cs.drop 0).take (Tryd.prog.cellsOf 3)) = xs[0]? := hall 0 _ rfl
  have e1 : DataW.trod enc Tryd.prog W 0 spare held n 3 ((cs.drop 1).take (Tryd.prog.cellsOf 3)) = xs[1]? := hall 1 _ rfl
  have e2 : DataW.trod enc Tryd.prog W 0 spare held n 9 ((cs.drop 2).take (Tryd.prog.cellsOf 9)) = xs[2]? := hall 2 _ rfl
  have e3 : DataW.trod enc Tryd.prog W 0 spare held n 23 ((cs.drop 3).take (Tryd.prog.cellsOf 23)) = xs[3]? := hall 3 _ rfl
  have e4 : DataW.trod enc Tryd.prog W 0 spare held n 61 ((cs.drop 4).take (Tryd.prog.cellsOf 61)) = xs[4]? := hall 4 _ rfl
  rw [ko_int] at e0 e1
  rw [ko_str] at e2
  rw [ko_ints] at e3
  rw [ko_bools] at e4
  obtain ⟨u0, u1, u2, u3, u4, rfl⟩ := five hl5
  obtain ⟨x0, x1, x2, x3, x4, rfl⟩ := five hx5
  obtain ⟨a, ha, _, _⟩ := DataW.trod_int Tryd.underlying3 (show DataW.trod enc Tryd.prog W 0 spare held n 3 [u0] = some x0 from e0)
  obtain ⟨b, hb, _, hw⟩ := DataW.trod_int Tryd.underlying3 (show DataW.trod enc Tryd.prog W 0 spare held n 3 [u1] = some x1 from e1)
  obtain ⟨s, hs, _, _⟩ := DataW.trod_string Tryd.underlying9 (show DataW.trod enc Tryd.prog W 0 spare held n 9 [u2] = some x2 from e2)
  have f3 : DataW.trod enc Tryd.prog W 0 spare held n 23 [u3] = some x3 := e3
  have f4 : DataW.trod enc Tryd.prog W 0 spare held n 61 [u4] = some x4 := e4
  obtain ⟨A, N, C, h3⟩ := slice_is Tryd.underlying23 f3
  obtain ⟨B, M, E, h4⟩ := slice_is Tryd.underlying61 f4
  cases ha; cases hb; cases hs; cases h3; cases h4
  obtain ⟨ks, hk, hn⟩ := nums_open (d := x3.1) (ps := x3.2) Tryd.underlying23 Tryd.underlying3 ko_int ⟨n, f3⟩
  obtain ⟨sl, hl', hb'⟩ := bools_open (d := x4.1) (ps := x4.2) Tryd.underlying61 Tryd.underlying4 ko_bool ⟨n, f4⟩
  subst hk hl'
  refine ⟨⟨a, b, s, A, C, ks, B, E, sl⟩, rfl, ?_, hn.at_, hb'⟩
  simp [Lit.wf, IntKind.min, IntKind.max, IntKind.signed, IntKind.bits] at hw
  show b < _
  omega

theorem ops_open {A : Option Addr} {n c : Nat} {d : DataW H} {ps : List MemPlace} (h : DataW.Trod enc Tryd.prog W 0 spare held 54 (.slice A n c) d ps) : ∃ l : List OpD, OpsAt W A n l := by
  obtain ⟨fuel, hf⟩ := h
  rcases slice_parts Tryd.underlying54 hf with hcs | ⟨a, len, cap, m, hcs, _, _, _, hel⟩
  · simp [Value.cells] at hcs
    obtain ⟨rfl, rfl, rfl⟩ := hcs
    exact ⟨[], rfl, fun x hx => by simp at hx, fun i hi => by omega⟩
  · simp [Value.cells] at hcs
    obtain ⟨rfl, rfl, rfl⟩ := hcs
    rw [ko_op] at hel
    have each : ∀ i, i < n → ∃ o : OpD, (∀ j v, o.cells[j]? = some v → W.cell? ((a.add (i * 5)).add j) = some v) ∧ o.at_ < 9223372036854775808 ∧ IntsArg W (fun _ => False) o.kA o.ks ∧ BoolsArg W (fun _ => False) o.sA o.sl := fun i hi => by
      obtain ⟨es, y, h1, h2⟩ := hel i hi
      obtain ⟨o, rfl, h3, h4, h5⟩ := op_open h2
      refine ⟨o, fun j v hj => ?_, h3, h4, h5⟩
      have hj5 : j < 5 := (Array.getElem?_eq_some_iff.1 hj).1
      rw [(World.cells?_some h1).2.2 j hj5]
      simpa using hj
    have all : ∃ f : Nat → OpD, ∀ i, i < n → (∀ j v, (f i).cells[j]? = some v → W.cell? ((a.add (i * 5)).add j) = some v) ∧ (f i).at_ < 9223372036854775808 ∧ IntsArg W (fun _ => False) (f i).kA (f i).ks ∧ BoolsArg W (fun _ => False) (f i).sA (f i).sl := by
      refine ⟨fun i => if h : i < n then Classical.choose (each i h) else ⟨0, 0, ⟨#[]⟩, none, 0, [], none, 0, []⟩, fun i hi => ?_⟩
      simp only [hi, dif_pos]
      exact Classical.choose_spec (each i hi)
    obtain ⟨f, hf⟩ := all
    refine ⟨(List.range n).map f, by simp, fun x hx => ?_, fun i hi => ?_⟩
    · obtain ⟨i, hi, rfl⟩ := List.mem_map.1 hx
      exact (hf i (List.mem_range.1 hi)).2.1
    · refine ⟨a, f i, rfl, by simp [hi], ?_, (hf i hi).1, (hf i hi).2.2⟩
      have h0 := (hf i hi).1 0 _ rfl
      have h1 := block_lt_of_cell h0
      rwa [block_add, block_add] at h1
set_option maxRecDepth 100000 in
theorem image_open {fuel : Nat} {cs : Array Value} {x : DataW H × List MemPlace} (h : DataW.trod enc Tryd.prog W 0 spare held fuel 57 cs.toList = some x) :
    ∃ vs Z t0 t1, cs = (vs ++ [Value.string t0, Value.string t1]).toArray ∧ FirstAt W vs Z := by
  obtain ⟨xs, n, rfl, _, hl, hxl, hall⟩ := DataW.trod_struct Tryd.underlying57 h
  have hl10 : cs.toList.length = 10 := hl.trans ko_img
  have hx2 : xs.length = 2 := hxl
  have e0 : DataW.trod enc Tryd.prog W 0 spare held n 29 ((cs.toList.drop 0).take (Tryd.prog.cellsOf 29)) = xs[0]? := hall 0 _ rfl
  have e1 : DataW.trod enc Tryd.prog W 0 spare held n 55 ((cs.toList.drop 8).take (Tryd.prog.cellsOf 55)) = xs[1]? := hall 1 _ rfl
  rw [ko_zones] at e0
  rw [ko_slots] at e1
  obtain ⟨x0, x1, rfl⟩ : ∃ x0 x1, xs = [x0, x1] := by
    match xs, hx2 with
    | [x0, x1], _ => exact ⟨x0, x1, rfl⟩
  obtain ⟨ys, m, rfl, _, hl2, hyl, hz⟩ := DataW.trod_array Tryd.underlying29 (show DataW.trod enc Tryd.prog W 0 spare held n 29 ((cs.toList.drop 0).take 8) = some x0 from e0)
  obtain ⟨zs, m', hm', _, hl3, hzl, hs⟩ := DataW.trod_array Tryd.underlying55 (show DataW.trod enc Tryd.prog W 0 spare held (m + 1) 55 ((cs.toList.drop 8).take 2) = some x1 from e1)
  rw [ko_strs] at hz
  rw [ko_str] at hs
  obtain ⟨vs, hvs⟩ : ∃ vs, vs = (cs.toList.drop 0).take 8 := ⟨_, rfl⟩
  obtain ⟨ts, hts⟩ : ∃ ts, ts = (cs.toList.drop 8).take 2 := ⟨_, rfl⟩
  rw [← hvs] at hz
  rw [← hts] at hs
  have hvl : vs.length = 8 := by rw [hvs]; simp at hl10 ⊢; omega
  have htl : ts.length = 2 := by rw [hts]; simp at hl10 ⊢; omega
  have hcs : cs.toList = vs ++ ts := by
    rw [hvs, hts, List.drop_zero]
    have h1 : (cs.toList.drop 8).take 2 = cs.toList.drop 8 := List.take_of_length_le (by rw [List.length_drop]; omega)
    rw [h1, List.take_append_drop]
  obtain ⟨u0, u1, rfl⟩ : ∃ u0 u1, ts = [u0, u1] := by
    match ts, htl with
    | [u0, u1], _ => exact ⟨u0, u1, rfl⟩
  have g0 := (hs 0 (by omega)).trans (List.getElem?_eq_getElem (by omega))
  have g1 := (hs 1 (by omega)).trans (List.getElem?_eq_getElem (by omega))
  obtain ⟨t0, ht0, _, _⟩ := DataW.trod_string Tryd.underlying9 (show DataW.trod enc Tryd.prog W 0 spare held m' 9 [u0] = some _ from g0)
  obtain ⟨t1, ht1, _, _⟩ := DataW.trod_string Tryd.underlying9 (show DataW.trod enc Tryd.prog W 0 spare held m' 9 [u1] = some _ from g1)
  cases ht0; cases ht1
  have each : ∀ z, z < 8 → ∃ l : List ByteArray, ∃ a n c, vs.getD z nilS = .slice a n c ∧ StrsAt W a n c l := fun z hz8 => by
    have g := (hz z hz8).trans (List.getElem?_eq_getElem (by omega))
    have e : (vs.drop (z * 1)).take 1 = [vs.getD z nilS] := by
      rw [Nat.mul_one]
      exact take_one vs z (by omega) nilS
    rw [e] at g
    obtain ⟨a, k, c, hf⟩ := slice_is Tryd.underlying22 g
    have hf' : vs.getD z nilS = .slice a k c := by simpa using hf
    rw [hf'] at g
    obtain ⟨l, hl⟩ := strs_open (n := k) (c := c) Tryd.underlying22 Tryd.underlying9 ko_str ⟨m, g⟩
    exact ⟨l, a, k, c, hf', hl⟩
  have all : ∃ f : Nat → List ByteArray, ∀ z, z < 8 → ∃ a n c, vs.getD z nilS = .slice a n c ∧ StrsAt W a n c (f z) := by
    refine ⟨fun i => if h : i < 8 then Classical.choose (each i h) else [], fun i hi => ?_⟩
    simp only [hi, dif_pos]
    exact Classical.choose_spec (each i hi)
  obtain ⟨f, hf⟩ := all
  refine ⟨vs, (List.range 8).map f, t0, t1, ?_, hvl, by simp, fun z hz8 => ?_⟩
  · rw [← hcs]
  · have e : ((List.range 8).map f).getD z [] = f z := by simp [List.getD, hz8]
    rw [e]
    exact hf z hz8
end
end Go.Proofs.YtmligbaalbbgiabDoor

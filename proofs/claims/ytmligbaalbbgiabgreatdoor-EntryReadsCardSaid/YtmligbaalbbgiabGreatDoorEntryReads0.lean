/- The law's function EntryReads: it returns true. Conditions: its arguments can be read; the variables hold what is laid in them. -/
import Derived.Test.YtmligbaalbbgiabGreatDoorReadS
import Derived.Test.YtmligbaalbbgiabGreatDoorTell
namespace Go.Proofs.YtmligbaalbbgiabGreatDoor
open Go.RowKit

/-- An error that is nil or an Errno. -/
def errN (n : Int) : Value := if n = 0 then .nilIface else .iface 24 (.int .i64 n)
theorem bareN (n : Int) (w : World) (hg : LaidE w) : Calls Tryz.prog 7 #[errN n, .int .i64 n] w fun e w' => e = .returned (.bool true) ∧ Below w.heap.size w w' := by
  unfold errN
  by_cases h : n = 0
  · subst h
    rw [if_pos rfl]
    exact (bare_nil 0 w).mono fun e w' ⟨he, hw⟩ => ⟨he, hw ▸ Below.refl _ _⟩
  · rw [if_neg h]
    exact (bare_errno n n w hg).mono fun e w' ⟨he, hb⟩ => ⟨by rw [he]; simp, hb⟩
def prT (l : List FileD) : ByteArray := if rightB l = true then ofl (printL l) else ⟨#[]⟩
def prE (l : List FileD) : Int := if rightB l = true then 0 else 1
theorem refprint_two {w : World} {A : Option Addr} {n c : Nat} {l : List FileD} (h : FilesAt w A n l) (hn : n ≤ 65536) (hL : LaidN w) :
    Calls Tryz.prog 5 #[.slice A n c] w fun e w' => e = .returned (.tuple #[.string (prT l), .int .i64 (prE l)]) ∧ Below w.heap.size w w' := by
  unfold prT prE
  by_cases h1 : rightB l = true
  · rw [if_pos h1, if_pos h1]; exact refprint_good h h1 hL
  · rw [if_neg h1, if_neg h1]; exact refprint_bad h hn (by simpa using h1)
theorem print_two {w : World} {A : Option Addr} {n c : Nat} {l : List FileD} (h : FilesAt w A n l) (hL : LaidN w) :
    Calls Tryz.prog 6 #[.slice A n c] w fun e w' => e = .returned (.tuple #[.string (prT l), errN (prE l)]) ∧ Below w.heap.size w w' := by
  unfold prT prE errN
  by_cases h1 : rightB l = true
  · rw [if_pos h1, if_pos h1]; exact print_good h h1 hL
  · rw [if_neg h1, if_neg h1]; exact print_bad h (by simpa using h1)
/-- What a text is read as: by both, alike. -/
theorem parse_bound {s : List UInt8} {l : List FileD} (h : parseP s = some (l.map FileD.bare)) : l.length ≤ 8 ∧ ∀ x ∈ l, x.cells.length ≤ 65536 := by
  obtain ⟨h1, -⟩ := parse_some h
  rw [right_bare] at h1
  obtain ⟨h2, h3, -⟩ := right_good h1
  refine ⟨h2, fun x hx => ?_⟩
  have h4 := h3 x hx
  rw [h4.len]
  have := need_big x.size.toNat (by have := h4.s1; omega)
  omega
theorem files_none (w : World) : FilesAt w none 0 [] := ⟨rfl, fun x hx => (by cases hx), fun i hi => (by omega)⟩

/-- What comes of a text: a number, and files. -/
def Came (s : List UInt8) (E : Int) (l : List FileD) : Prop := (E = 0 ∧ parseP s = some (l.map FileD.bare)) ∨ (E = 3 ∧ parseP s = none ∧ l = [])
theorem Came.same {s : List UInt8} {E E' : Int} {l l' : List FileD} (h : Came s E l) (h' : Came s E' l') : E = E' ∧ l.map FileD.bare = l'.map FileD.bare ∧ l.length ≤ 65536 ∧ ∀ x ∈ l, x.cells.length ≤ 65536 := by
  rcases h with ⟨e1, p1⟩ | ⟨e1, p1, rfl⟩ <;> rcases h' with ⟨e2, p2⟩ | ⟨e2, p2, rfl⟩
  · obtain ⟨b1, b2⟩ := parse_bound p1
    rw [p1] at p2
    injection p2 with p2
    exact ⟨e1.trans e2.symm, p2, by omega, b2⟩
  · rw [p1] at p2; cases p2
  · rw [p1] at p2; cases p2
  · exact ⟨e1.trans e2.symm, rfl, by simp, fun x hx => (by cases hx)⟩
theorem refparse_two (s : ByteArray) (hs : s.size ≤ 65536) {w : World} (hL : LaidN w) :
    Calls Tryz.prog 17 #[.string s] w fun e w' => ∃ A k c E l, e = .returned (.tuple #[.slice A k c, .int .i64 E]) ∧ FilesAt w' A k l ∧ Came (bl s) E l ∧ Below w.heap.size w w' := by
  refine (refparse_any s hs hL).mono ?_
  rintro e w' ⟨hb, ⟨hp, rfl⟩ | ⟨l, A, k, c, hp, hf, rfl⟩⟩
  · exact ⟨_, _, _, _, [], rfl, files_none _, .inr ⟨rfl, hp, rfl⟩, hb⟩
  · exact ⟨_, _, _, _, l, rfl, hf, .inl ⟨rfl, hp⟩, hb⟩
theorem parse_two' (s : ByteArray) (hs : s.size ≤ 65536) {w : World} (hL : LaidN w) :
    Calls Tryz.prog 18 #[.string s] w fun e w' => ∃ A k c E l, e = .returned (.tuple #[.slice A k c, errN E]) ∧ FilesAt w' A k l ∧ Came (bl s) E l ∧ Below w.heap.size w w' := by
  refine (parse_any s hs hL).mono ?_
  rintro e w' ⟨hb, ⟨hp, rfl⟩ | ⟨l, A, k, c, hp, hf, rfl⟩⟩
  · exact ⟨_, _, _, 3, [], rfl, files_none _, .inr ⟨rfl, hp, rfl⟩, hb⟩
  · exact ⟨_, _, _, 0, l, rfl, hf, .inl ⟨rfl, hp⟩, hb⟩

set_option maxRecDepth 100000 in
set_option maxHeartbeats 8000000 in
theorem entryReads_any {w : World} {A : Option Addr} {n c : Nat} {l : List FileD} (h : FilesAt w A n l) (s : ByteArray) (hs : s.size ≤ 9223372036854775807) (z : Int) (hz : -9223372036854775808 ≤ z) (hL : LaidN w) (hE : LaidE w) :
    Calls Tryz.prog 3 #[.slice A n c, .string s, .int .i64 z] w fun e w' => e = .returned (.bool true) ∧ Below w.heap.size w w' := by
  have H := hide h
  have HN := hide h.hn
  have HL := hide hL
  have HE := hide hE
  have HZ := hide hz
  clear h hL hE hz
  cases hsh : shortB l with
  | false =>
    have HSH := hide (short_any (c := c) H.out)
    rw [hsh] at HSH
    clear hsh
    go_enter Tryz.func3, Tryz.ntmps3
    go_wp2_with (go_at_call 4; refine HSH.out.mono ?_; rintro e w1 ⟨rfl, rfl⟩)
    go_ret
    exact ⟨rfl, Below.refl _ _⟩
  | true =>
    have HSH := hide (short_any (c := c) H.out)
    rw [hsh] at HSH
    by_cases hs4 : 400 < s.size
    · have c4 : decide (400 < s.size) = true := by simpa using hs4
      have c4' : decide ((400 : Int) < (s.size : Int)) = true := by simp; omega
      clear hsh hs4
      go_enter Tryz.func3, Tryz.ntmps3
      go_wp2_with (go_at_call 4; refine HSH.out.mono ?_; rintro e w1 ⟨rfl, rfl⟩)
      go_ret
      exact ⟨rfl, Below.refl _ _⟩
    · have c4 : decide (400 < s.size) = false := by simpa using hs4
      have c4' : decide ((400 : Int) < (s.size : Int)) = false := by simp; omega
      have s65 : s.size ≤ 65536 := by omega
      have hn12 : n ≤ 12 := by
        unfold shortB at hsh
        simp only [Bool.and_eq_true, decide_eq_true_eq] at hsh
        have := HN.out
        omega
      have HRP := hide (refprint_two (c := c) H.out (by omega) HL.out)
      obtain ⟨T, hT⟩ : ∃ T, T = prT l := ⟨_, rfl⟩
      obtain ⟨E, hE⟩ : ∃ E, E = prE l := ⟨_, rfl⟩
      obtain ⟨r, hr⟩ : ∃ r, r = rightB l := ⟨_, rfl⟩
      obtain ⟨nm, hnm⟩ : ∃ nm, nm = nameB (bl s) := ⟨_, rfl⟩
      have e1 : (E == 0) = r := by rw [hE, hr]; unfold prE; cases rightB l <;> rfl
      have t1 : (T.toList == T.toList) = true := by simp
      have r1 : (r == r) = true := by simp
      have r2 : (r != r) = false := by simp
      have m1 : (nm == nm) = true := by simp
      have m2 : (nm != nm) = false := by simp
      rw [← hT, ← hE] at HRP
      have HT := hide hT
      have HEE := hide hE
      have HR := hide hr
      have HNM := hide hnm
      obtain ⟨nz, hnz⟩ : ∃ nz, nz = needZ z := ⟨_, rfl⟩
      have z1 : (nz == nz) = true := by simp
      have z2 : (nz != nz) = false := by simp
      have HNZ := hide hnz
      clear hsh hs4 hT hE hr hnm hnz
      go_enter Tryz.func3, Tryz.ntmps3
      go_upto_region 4 with (first
        | (go_at_call 4; refine HSH.out.mono ?_; rintro e w1 ⟨rfl, rfl⟩)
        | (go_at_call 5; refine HRP.out.mono ?_; rintro e w1 ⟨rfl, hb1⟩; have HB1 := hide hb1; clear hb1))
      have HP := hide (print_two (c := c) (H.out.below HB1.out) (HL.out.below HB1.out))
      rw [← HT.out, ← HEE.out] at HP
      go_upto_region 5 with (go_at_call 6; refine HP.out.mono ?_; rintro e w2 ⟨rfl, hb2⟩; have HB2 := hide (below_step HB1.out hb2); clear hb2)
      go_upto_region 7 with (first
        | (go_at_call 7; refine (bareN E _ (HE.out.below HB2.out)).mono ?_; rintro e w3 ⟨rfl, hb3⟩; have HB3 := hide (below_step HB2.out hb3); clear hb3)
        | (go_at_call 8; refine (right_any (H.out.below HB3.out)).mono ?_; rintro e w4 ⟨rfl, hb4⟩; rw [← HR.out]; have HB4 := hide (below_step HB3.out hb4); clear hb4)
        | (go_at_call 9; refine (refright_any (H.out.below HB4.out) (by omega)).mono ?_; rintro e w5 ⟨rfl, hb5⟩; rw [← HR.out]; have HB5 := hide (below_step HB4.out hb5); clear hb5)
        | (go_at_call 10; refine (name_any s hs _).mono ?_; rintro e w6 ⟨rfl, hb6⟩; rw [← HNM.out]; have HB6 := hide (below_step HB5.out hb6); clear hb6)
        | (go_at_call 11; refine (refname_any s hs _).mono ?_; rintro e w7 ⟨rfl, rfl⟩; rw [← HNM.out]))
      go_cut [62] from 54 to 62 (fun v wx => v = .bool false ∧ w6 = wx)
      case first =>
        by_cases hz : z ≤ 1152921504606846976
        · have d0 : decide (z ≤ 1152921504606846976) = true := by simpa using hz
          have HZ1 := hide hz
          clear hz
          go_wp2_with (first
            | (go_at_call 12; refine (need_z z HZ.out HZ1.out _).mono ?_; rintro e w7 ⟨rfl, rfl⟩; rw [← HNZ.out])
            | (go_at_call 13; refine (refneed_z z HZ.out (by have := HZ1.out; omega) _).mono ?_; rintro e w7 ⟨rfl, rfl⟩; rw [← HNZ.out]))
          go_meet
          case rel => exact ⟨rfl, rfl⟩
        · have d0 : decide (z ≤ 1152921504606846976) = false := by simpa using hz
          clear hz
          go_wp2_with fail
          go_meet
          case rel => exact ⟨rfl, rfl⟩
      case rest =>
        obtain ⟨rfl, rfl⟩ := hcut
        go_upto_region 9 with fail
        go_cut [72] from 63 to 72 (fun v wx => v = .bool false ∧ Below w.heap.size w wx)
        case first =>
          cases r with
          | false =>
            go_wp2_with fail
            go_meet
            case rel => exact ⟨rfl, HB6.out⟩
          | true =>
            obtain ⟨hf8, -, -⟩ := right_good HR.out.symm
            have hfl : (freeL l).length ≤ 65536 := by have := free_count HR.out.symm; omega
            obtain ⟨fl, hfl2⟩ : ∃ fl, fl = (freeL l).length := ⟨_, rfl⟩
            rw [← hfl2] at hfl
            have HFL := hide hfl2
            clear hf8 hfl2
            go_wp2_with (first
              | (go_at_call 15; refine (free_any (H.out.below HB6.out) HR.out.symm).mono ?_; rintro e w7 ⟨F1, c1, rfl, hi1, hb7⟩; rw [← HFL.out]; have HI1 := hide hi1; have HB7 := hide (below_step HB6.out hb7); clear hi1 hb7)
              | (go_at_call 16; refine (freecells_any (H.out.below HB7.out) HR.out.symm).mono ?_; rintro e w8 ⟨F2, c2, rfl, hi2, hb8⟩; rw [← HFL.out]; have HI2 := hide hi2; have HI3 := hide (HI1.out.keep hb8); have HB8 := hide (below_step HB7.out hb8); clear hi2 hb8)
              | (go_at_call 14; refine (sameInts_yes HI3.out HI2.out HFL.out hfl).mono ?_; rintro e w9 ⟨rfl, hb9⟩; have HB9 := hide (below_step HB8.out hb9); clear hb9))
            go_meet
            case rel => exact ⟨rfl, HB9.out⟩
        case rest =>
          obtain ⟨rfl, hbc⟩ := hcut
          have HBC := hide hbc
          clear hbc
          have HRF := hide (refparse_two s s65 (HL.out.below HBC.out))
          go_upto_region 12 with (go_at_call 17; refine HRF.out.mono ?_; rintro e w10 ⟨A1, k1, cc1, E1, l1, rfl, hf1, hc1, hb10⟩; have HF1 := hide hf1; have HC1 := hide hc1; have HB10 := hide (below_step HBC.out hb10); clear hf1 hc1 hb10)
          have HPF := hide (parse_two' s s65 (HL.out.below HB10.out))
          go_upto_region 13 with (go_at_call 18; refine HPF.out.mono ?_; rintro e w11 ⟨A2, k2, cc2, E2, l2, rfl, hf2, hc2, hb11⟩; have HF2 := hide hf2; have HC2 := hide hc2; have HF3 := hide (HF1.out.below hb11); have HB11 := hide (below_step HB10.out hb11); clear hf2 hc2 hb11)
          obtain ⟨rfl, hsame, hlen, hcl⟩ := HC2.out.same HC1.out
          have hk2 : k2 = k1 := by
            rw [HF2.out.hn, HF3.out.hn]
            have := congrArg List.length hsame
            simpa using this
          subst hk2
          have hk65 : k2 ≤ 65536 := by rw [HF2.out.hn]; exact hlen
          have HSAME := hide hsame
          have HCL := hide hcl
          clear hsame hlen hcl
          go_wp2_with (first
            | (go_at_call 7; refine (bareN E2 _ (HE.out.below HB11.out)).mono ?_; rintro e w12 ⟨rfl, hb12⟩; have HF4 := hide (HF2.out.below hb12); have HF5 := hide (HF3.out.below hb12); have HB12 := hide (below_step HB11.out hb12); clear hb12)
            | (go_at_call 19; refine (sameFiles_law HF4.out HF5.out HSAME.out HCL.out hk65).mono ?_; rintro e w13 ⟨rfl, hb13⟩; have HB13 := hide (below_step HB12.out hb13); clear hb13))
          go_ret
          exact ⟨rfl, HB13.out⟩
end Go.Proofs.YtmligbaalbbgiabGreatDoor

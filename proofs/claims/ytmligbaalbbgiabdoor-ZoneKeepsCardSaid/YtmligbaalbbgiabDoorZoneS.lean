/- What a device is and does, as plain functions: blocks of zones, how many are sure, slots, what waits, the fuse. It states nothing about the program. -/
import Derived.Test.YtmligbaalbbgiabDoorBase
namespace Go.Proofs.YtmligbaalbbgiabDoor
open Go.RowKit

/-- A text, zeros behind it, cut to a length. -/
def padL (l : List UInt8) (n : Nat) : List UInt8 := (l ++ List.replicate n 0).take n
theorem padL_length (l : List UInt8) (n : Nat) : (padL l n).length = n := by simp [padL]
def padB (s : ByteArray) (n : Nat) : ByteArray := ofl (padL (bl s) n)
theorem padB_size (s : ByteArray) (n : Nat) : (padB s n).size = n := by simp [padB, ofl_size, padL_length]

/-- A device: its zones' blocks, how many of each are sure, its slots, the writes of slots that wait, its fuse. -/
structure Dv where
  L : List (List ByteArray)
  S : List Nat
  T : List ByteArray
  q : List (Nat × ByteArray)
  f : Int

def Dv.zone (D : Dv) (z : Nat) : List ByteArray := D.L.getD z []
def Dv.sure (D : Dv) (z : Nat) : Nat := D.S.getD z 0
def Dv.burn (D : Dv) : Dv := if 0 < D.f then { D with f := D.f - 1 } else D
theorem burn_L (D : Dv) : D.burn.L = D.L := by unfold Dv.burn; split <;> rfl
theorem burn_S (D : Dv) : D.burn.S = D.S := by unfold Dv.burn; split <;> rfl
theorem burn_T (D : Dv) : D.burn.T = D.T := by unfold Dv.burn; split <;> rfl
theorem burn_q (D : Dv) : D.burn.q = D.q := by unfold Dv.burn; split <;> rfl
theorem burn_zone (D : Dv) (z : Nat) : D.burn.zone z = D.zone z := by unfold Dv.zone; rw [burn_L]
/-- The slots behind writes. -/
def putAll (T : List ByteArray) (q : List (Nat × ByteArray)) : List ByteArray := q.foldl (fun T p => T.set p.1 p.2) T

/-- What holds of each device. -/
structure Dv.Ok (D : Dv) : Prop where
  hL : D.L.length = 8
  hS : D.S.length = 8
  hT : D.T.length = 2
  cap : ∀ z, (D.zone z).length ≤ 16
  q : ∀ p ∈ D.q, p.1 < 2
  f1 : -1 ≤ D.f
  f2 : D.f < 9223372036854775808

/-- What is sure is there. -/
def Dv.SureOk (D : Dv) : Prop := ∀ z, D.sure z ≤ (D.zone z).length
theorem Dv.Ok.burn {D : Dv} (h : D.Ok) : D.burn.Ok := by
  unfold Dv.burn
  split
  · have := h.f2
    exact ⟨h.hL, h.hS, h.hT, h.cap, h.q, by show -1 ≤ D.f - 1; omega, by show D.f - 1 < _; omega⟩
  · exact h

theorem getD_set {α : Type} (l : List α) (i j : Nat) (x d : α) (hi : i < l.length) : (l.set i x).getD j d = if i = j then x else l.getD j d := by
  by_cases h : i = j
  · subst h; simp [List.getD, hi]
  · simp [List.getD, h]

theorem Dv.Ok.setZ {D : Dv} (h : D.Ok) (z : Nat) (hz : z < 8) (l : List ByteArray) (hl : l.length ≤ 16) : Dv.Ok { D with L := D.L.set z l } := by
  refine ⟨by show (D.L.set z l).length = 8; rw [List.length_set]; exact h.hL, h.hS, h.hT, fun j => ?_, h.q, h.f1, h.f2⟩
  show ((D.L.set z l).getD j []).length ≤ 16
  rw [getD_set D.L z j l [] (by rw [h.hL]; exact hz)]
  split
  · exact hl
  · exact h.cap j
theorem Dv.Ok.setS {D : Dv} (h : D.Ok) (z n : Nat) : Dv.Ok { D with S := D.S.set z n } :=
  ⟨h.hL, by show (D.S.set z n).length = 8; rw [List.length_set]; exact h.hS, h.hT, h.cap, h.q, h.f1, h.f2⟩
theorem Dv.Ok.setT {D : Dv} (h : D.Ok) (k : Nat) (s : ByteArray) : Dv.Ok { D with T := D.T.set k s } :=
  ⟨h.hL, h.hS, by show (D.T.set k s).length = 2; rw [List.length_set]; exact h.hT, h.cap, h.q, h.f1, h.f2⟩
theorem Dv.Ok.setQ {D : Dv} (h : D.Ok) (q : List (Nat × ByteArray)) (hq : ∀ p ∈ q, p.1 < 2) : Dv.Ok { D with q := q } :=
  ⟨h.hL, h.hS, h.hT, h.cap, hq, h.f1, h.f2⟩
theorem Dv.Ok.setF {D : Dv} (h : D.Ok) (f : Int) (h1 : -1 ≤ f) (h2 : f < 9223372036854775808) : Dv.Ok { D with f := f } :=
  ⟨h.hL, h.hS, h.hT, h.cap, h.q, h1, h2⟩

/-- Of writing a block: the device, which one it is, the error. -/
def appendR (D : Dv) (z : Int) (s : ByteArray) : Dv × Int × Int :=
  if z < 0 ∨ 8 ≤ z then (D, 0, 2)
  else if 128 < s.size then (D, 0, 4)
  else if (D.zone z.toNat).length = 16 then (D, 0, 12)
  else if D.f = 0 then (D, 0, 14)
  else ({ D.burn with L := D.L.set z.toNat (D.zone z.toNat ++ [padB s 128]) }, ((D.zone z.toNat).length : Int), 0)
def resetR (D : Dv) (z : Int) : Dv × Int :=
  if z < 0 ∨ 8 ≤ z then (D, 2)
  else if D.f = 0 then (D, 14)
  else ({ D.burn with L := D.L.set z.toNat [], S := D.S.set z.toNat 0 }, 0)
def readR (D : Dv) (z off : Int) : ByteArray × Int :=
  if z < 0 ∨ 8 ≤ z then (⟨#[]⟩, 2)
  else if off < 0 ∨ ((D.zone z.toNat).length : Int) ≤ off then (⟨#[]⟩, 7)
  else ((D.zone z.toNat).getD off.toNat ⟨#[]⟩, 0)
def atR (D : Dv) (z : Int) : Int × Int := if z < 0 ∨ 8 ≤ z then (0, 2) else (((D.zone z.toNat).length : Int), 0)
def putR (D : Dv) (k : Int) (s : ByteArray) : Dv × Int :=
  if k < 0 ∨ 1 < k then (D, 2)
  else if 500 < s.size then (D, 4)
  else if D.f = 0 then (D, 14)
  else ({ D.burn with q := D.q ++ [(k.toNat, padB s 500)] }, 0)
def getR (D : Dv) (k : Int) : ByteArray × Int := if k < 0 ∨ 1 < k then (⟨#[]⟩, 2) else ((putAll D.T D.q).getD k.toNat ⟨#[]⟩, 0)
def syncD (D : Dv) : Dv := { D.burn with S := D.L.map List.length, T := putAll D.T D.q, q := [] }
def syncR (D : Dv) : Dv × Int := if D.f = 0 then (D, 14) else (syncD D, 0)
def fuseD (D : Dv) (n : Int) : Dv := { D with f := max n (-1) }
def imageR (D : Dv) : List (List ByteArray) := (List.range 8).map fun z => (D.zone z).take (D.sure z)
def layD (D : Dv) (zs : List (List ByteArray)) (t : List ByteArray) : Dv :=
  { L := zs.map fun l => (l.take 16).map fun s => padB s 128, S := zs.map fun l => min l.length 16, T := t.map fun s => padB s 500, q := [], f := D.f }
/-- Of what is lost: of blocks that are not sure each zone keeps the first so many; of waiting writes those that are told. -/
def keepN (keeps : List Int) (z : Nat) : Nat := (keeps.getD z 0).toNat
def crashL (D : Dv) (keeps : List Int) : List (List ByteArray) := (List.range 8).map fun z => (D.zone z).take (D.sure z + min (keepN keeps z) ((D.zone z).length - D.sure z))
def crashQ (q : List (Nat × ByteArray)) (slots : List Bool) : List (Nat × ByteArray) := ((q.zipIdx).filter fun p => slots.getD p.2 false).map (·.1)
def crashD (D : Dv) (keeps : List Int) (slots : List Bool) : Dv :=
  { L := crashL D keeps, S := (crashL D keeps).map List.length, T := putAll D.T (crashQ D.q slots), q := [], f := -1 }
end Go.Proofs.YtmligbaalbbgiabDoor

/- The function sum.Hex. -/
import Derived.Test.YtmligbaalbbgiaaDoorProg
import Derived.Test.YtmligbaalbbgiaaDoorBase
import Derived.Test.YtmligbaalbbgiaaDoorTail
namespace Go.Proofs.YtmligbaalbbgiaaDoor
open Go.RowKit

/-- A hexadecimal digit; a text's digits. -/
def hexD (n : Nat) : UInt8 := ([48, 49, 50, 51, 52, 53, 54, 55, 56, 57, 97, 98, 99, 100, 101, 102] : List UInt8).getD n 0
def hexS : List UInt8 → List UInt8
  | [] => []
  | c :: l => hexD (c.toNat / 16) :: hexD (c.toNat % 16) :: hexS l
theorem hexS_append (a b : List UInt8) : hexS (a ++ b) = hexS a ++ hexS b := by
  induction a with
  | nil => rfl
  | cons c l ih => simp [hexS, ih]
theorem hexS_length (a : List UInt8) : (hexS a).length = 2 * a.length := by
  induction a with
  | nil => rfl
  | cons c l ih => simp [hexS, ih]; omega
def hexT : ByteArray := { data := #[48, 49, 50, 51, 52, 53, 54, 55, 56, 57, 97, 98, 99, 100, 101, 102] }
theorem hexD_get (n : Int) (h0 : 0 ≤ n) (h1 : n < 16) (p : n.toNat < hexT.size) : hexT[n.toNat]'p = hexD n.toNat := by
  have h : ∀ m : Fin 16, hexT[m.1]'(by have := m.2; exact this) = hexD m.1 := by decide
  exact h ⟨n.toNat, by omega⟩
theorem hexS_take (s : ByteArray) (k : Nat) (h : k < s.size) : hexS ((bl s).take (k + 1)) = hexS ((bl s).take k) ++ [hexD (s[k].toNat / 16), hexD (s[k].toNat % 16)] := by
  have hl : k < (bl s).length := by rw [bl_length]; exact h
  rw [List.take_succ_eq_append_getElem hl, hexS_append]
  have e : (bl s)[k] = s[k] := rfl
  rw [e]
  rfl
theorem hex_row {w1 : World} {base e n : Nat} {v : Value} {X : List Value} {x : Nat} {p1 : ((x : Int) / 16).toNat < hexT.size} {p2 : ((x : Int) % 16).toNat < hexT.size} (hx : x < 256)
    (h : w1.ownsRow base e 1 v n (X ++ #[Value.int .u8 ((hexT[((x : Int) / 16).toNat]'p1).toNat : Int), Value.int .u8 ((hexT[((x : Int) % 16).toNat]'p2).toNat : Int)].toList)) :
    w1.ownsRow base e 1 v n (X ++ bytesV [hexD (x / 16), hexD (x % 16)]) := by
  rw [hexD_get _ (by omega) (by omega), hexD_get _ (by omega) (by omega)] at h
  rw [show ((x : Int) / 16).toNat = x / 16 from by omega, show ((x : Int) % 16).toNat = x % 16 from by omega] at h
  exact h
theorem info_u8' : (Tryd.prog.info? 5).map (fun i => (i.zero, i.size, i.bytes)) = some (some (.int .u8 0), 1, 1) := by kernel_rfl

set_option maxRecDepth 100000 in
set_option maxHeartbeats 1000000 in
theorem Hex_any (s : ByteArray) (hs : s.size ≤ 65536) (w : World) :
    Calls Tryd.prog 30 #[.string s] w fun e w' => e = .returned (.string (ofl (hexS (bl s)))) ∧ Below w.heap.size w w' := by
  obtain ⟨i0, hi0, hz0, hz1, hz2⟩ := info_parts info_u8'
  go_enter Tryd.func30, Tryd.ntmps30
  go_wp2
  go_loopw [3, 7] (fun v i wr => ∃ k : Nat, i = .int .i64 (k : Int) ∧ k ≤ s.size ∧ Below w.heap.size w wr ∧ wr.ownsRow w.heap.size 5 1 v (2 * k) (bytesV (hexS ((bl s).take k)))) (fun _ i _ => s.size - (intOf i).toNat)
  case atStart => exact ⟨0, rfl, by omega, Below.refl _ _, World.ownsRow_nil _ _ _ _⟩
  case round =>
    obtain ⟨k, rfl, hk, hbel, hown⟩ := hrel
    by_cases hlt : k < s.size
    · have b0 : (k : Int) < (s.size : Int) := by omega
      have hx := byteAt_lt (bl s) k
      rw [byteAt_bl s k hlt] at hx
      have b1 : ((s[k].toNat : Int) / 16) < 16 := by omega
      have b2 : bits .and .u8 (s[k].toNat : Int) 15 = (s[k].toNat : Int) % 16 := by
        have := u8_and_nat s[k].toNat 15 hx (by omega)
        rw [nat_mask4] at this
        rw [show ((15 : Int)) = ((15 : Nat) : Int) from rfl, this]
        omega
      have b3 : (0 : Int) ≤ (s[k].toNat : Int) % 16 := by omega
      have b4 : (s[k].toNat : Int) % 16 < 16 := by omega
      go_upto_region 5 with fail
      go_region_held3 (fun w' => True) (trivial)
        ((refine step_append_lies _ (by rfl) _ _ _ (by rfl) w.heap.size 5 i0 _ 1 1 Tryd.underlying59 hi0 hz0 hz1 hz2 rfl (by omega) _ _ _ (by rfl) ((hown.alloc _).drew) ⟨wr.heap.size, 0, none⟩ 2 2 _ (by rfl) (by rfl) (World.news_of_block (fr := (0, 0)) (heap_alloc_new wr _)) (by simp [Value.oneCell']) (by omega) (by unfold maxLen; omega) (by omega) (by have := hbel.size; simp; omega) (wr.heap.size + 1) (by simp) ?_; intro gg cap w1 hown1 hgrow hat hlt1))
      all_goals
        have hown2 := hex_row hx hown1
        rw [← bytesV_append, ← hexS_take s k hlt] at hown2
        have hb2 : Below w.heap.size w w1 := ((hbel.alloc hbel.size _).drew).grown hgrow (by have := hbel.size; simp; omega) (fun q hq => (hown.lt q hq).1)
        clear hown1 hgrow hat hlt1 hown hbel b2
        go_wp2
        go_roundw
        case rel => exact ⟨k + 1, by go_num, by omega, hb2, hown2⟩
        case measure => simp [intOf]; omega
    · obtain rfl : k = s.size := by omega
      have hcv := run_string_own (P := Tryd.prog) (src := 59) (dst := 9) Tryd.underlying59 Tryd.underlying5 Tryd.underlying9 hown
      rw [List.take_of_length_le (by rw [bl_length]; exact Nat.le_refl _)] at hcv
      clear hlt hk
      go_wp2
      go_ret
      exact ⟨rfl, hbel⟩
end Go.Proofs.YtmligbaalbbgiaaDoor

/- The function stream.Block. -/
import Derived.Test.YtmligbaalbbgiabDoorProg
import Derived.Test.YtmligbaalbbgiabDoorBase
import Derived.Test.YtmligbaalbbgiabDoorStream1
import Derived.Test.YtmligbaalbbgiabDoorStream2
namespace Go.Proofs.YtmligbaalbbgiabDoor
open Go.RowKit

/-- Block g has these words; below it, all is as it was; there are m blocks. -/
structure Own1 (w wr : World) (g m t : Nat) (l : List Nat) : Prop where
  blk : Blk wr g t (words l)
  bel : Below w.heap.size w wr
  siz : wr.heap.size = m
theorem Own1.drewN {w wr : World} {g m t : Nat} {l : List Nat} (h : Own1 w wr g m t l) (d : Nat) : Own1 w (wr.drewN d) g m t l :=
  ⟨h.blk.drewN d, below_drewN h.bel d, h.siz⟩
theorem Own1.set {w wr : World} {g m t : Nat} {l : List Nat} (h : Own1 w wr g m t l) (hg : w.heap.size ≤ g) (i v : Nat) : Own1 w (wr.setCell ⟨g, i, none⟩ (.int .u32 ((v : Nat) : Int))) g m t (l.set i v) :=
  ⟨by rw [h.blk.setWord]; exact h.blk.setRow _, h.bel.setCell hg _, by simp [World.setCell, h.siz]⟩
/-- Two blocks of words. -/
structure Own2 (w wr : World) (g m t : Nat) (s l : List Nat) : Prop where
  one : Blk wr g t (words s)
  two : Blk wr (g + 1) t (words l)
  bel : Below w.heap.size w wr
  siz : wr.heap.size = m
theorem Own2.row {w wr : World} {g m t : Nat} {s l : List Nat} (h : Own2 w wr g m t s l) (hg : w.heap.size ≤ g) (l' : List Nat) (d : Nat) : Own2 w ((wr.setRow (g + 1) (words l')).drewN d) g m t s l' := by
  refine ⟨?_, (h.two.setRow l').drewN d, below_drewN ?_ d, by simpa using h.siz⟩
  · show _ = _
    exact (setRow_other wr (g + 1) g _ (by omega)).trans h.one
  · exact h.bel.trans ⟨rfl, rfl, rfl, by simp, fun k hk => setRow_other wr (g + 1) k _ (by omega)⟩

theorem info_u8 : (Tryd.prog.info? 5).map (fun i => (i.zero, i.size, i.bytes)) = some (some (.int .u8 0), 1, 1) := by kernel_rfl

set_option maxRecDepth 100000 in
set_option maxHeartbeats 4000000 in
theorem Block_good (key nonce : ByteArray) (n : Nat) (hk : key.size = 32) (hn : nonce.size = 12) (h1 : n < 4294967296) (w : World) :
    Calls Tryd.prog 127 #[.string key, .int .i64 (n : Int), .string nonce] w fun e w' => e = .returned (.tuple #[.string (ofl (block64 (bl key) (bl nonce) n)), .nilIface]) ∧ Below w.heap.size w w' := by
  have t1 : ((key.size : Int) != 32) = false := by simp; omega
  have t2 : ((nonce.size : Int) != 12) = false := by simp; omega
  have k1 : key.size ≤ 32 := by omega
  have k2 : 32 ≤ key.size := by omega
  have n1 : nonce.size ≤ 12 := by omega
  have n2 : 12 ≤ nonce.size := by omega
  clear hk hn
  have HO : Own1 w (w.alloc (.cells (words init0) 206)) w.heap.size (w.heap.size + 1) 206 init0 := ⟨Blk.new _ _ _, (Below.refl _ _).alloc (Nat.le_refl _) _, by simp⟩
  obtain ⟨G, hG⟩ : ∃ G, G = w.heap.size := ⟨_, rfl⟩
  obtain ⟨W1, hW1⟩ : ∃ W1, W1 = w.alloc (.cells (words init0) 206) := ⟨_, rfl⟩
  rw [← hW1, ← hG] at HO
  have HG := hide hG
  have HW1 := hide hW1
  have HO1 := hide HO
  clear hG hW1 HO
  obtain ⟨i0, hi0, hz0, hz1, hz2⟩ := info_parts info_u8
  go_enter Tryd.func127, Tryd.ntmps127
  go_wp2
  rw [← HG.out]
  rw [show w.alloc (Obj.cells #[Value.int IntKind.u32 1634760805, Value.int IntKind.u32 857760878, Value.int IntKind.u32 2036477234,
      Value.int IntKind.u32 1797285236, Value.int IntKind.u32 0, Value.int IntKind.u32 0, Value.int IntKind.u32 0,
      Value.int IntKind.u32 0, Value.int IntKind.u32 0, Value.int IntKind.u32 0, Value.int IntKind.u32 0,
      Value.int IntKind.u32 0, Value.int IntKind.u32 0, Value.int IntKind.u32 0, Value.int IntKind.u32 0,
      Value.int IntKind.u32 0] 206) = W1 from HW1.out.symm]
  go_loopw [35] (fun i wr => ∃ k : Nat, k ≤ 8 ∧ i = .int .i64 k ∧ Own1 w wr G (G + 1) 206 (fillW (bl key) 4 k init0)) (fun i _ => 8 - (intOf i).toNat)
  case atStart => exact ⟨0, by omega, rfl, HO1.out⟩
  case round =>
    obtain ⟨k, hk, rfl, hO⟩ := hrel
    by_cases hlt : k < 8
    · have cc := hO.blk.word (i := 4 + k) (by rw [fillW_length]; show 4 + k < 16; omega)
      have cf := hO.blk.frozen (4 + k)
      go_wp2_with (go_at_call 149; refine (word_any _ (by simp; omega) _).mono ?_; rintro e w' ⟨rfl, d, rfl⟩)
      go_roundw
      case rel =>
        refine ⟨k + 1, by omega, by go_num, ?_⟩
        have := (hO.drewN d).set (HG.out ▸ Nat.le_refl _) (4 + k) (le4 ((bl key).drop (4 * k)))
        rw [bl_extract, List.take_of_length_le (by simp [bl_length])]
        exact this
      case measure => simp [intOf]; omega
    · obtain rfl : k = 8 := by omega
      obtain ⟨S, hS⟩ : ∃ S, S = fillW (bl key) 4 8 init0 := ⟨_, rfl⟩
      rw [← hS] at hO
      have HS := hide hS
      have hl : S.length = 16 := by rw [hS, fillW_length]; rfl
      have HL := hide hl
      have c12 := hO.blk.word (i := 12) (by rw [hl]; omega)
      have f12 := hO.blk.frozen 12
      clear hS hl hk hlt
      rw [show ((8 : Nat) : Int) = 8 from rfl]
      go_wp2
      have hO2 := hO.set (HG.out ▸ Nat.le_refl _) 12 n
      obtain ⟨W2, hW2⟩ : ∃ W2, W2 = wr.setCell ⟨G, 12, none⟩ (.int .u32 (n : Int)) := ⟨_, rfl⟩
      rw [← hW2] at hO2 ⊢
      go_loopw [50] (fun i wq => ∃ k : Nat, k ≤ 3 ∧ i = .int .i64 k ∧ Own1 w wq G (G + 1) 206 (fillW (bl nonce) 13 k (S.set 12 n))) (fun i _ => 3 - (intOf i).toNat)
      case atStart => exact ⟨0, by omega, rfl, hO2⟩
      case round =>
        clear hO2 hW2 hO c12 f12
        obtain ⟨k, hk, rfl, hO⟩ := hrel
        by_cases hlt : k < 3
        · have cc := hO.blk.word (i := 13 + k) (by rw [fillW_length, List.length_set, HL.out]; omega)
          have cf := hO.blk.frozen (13 + k)
          go_wp2_with (go_at_call 149; refine (word_any _ (by simp; omega) _).mono ?_; rintro e w' ⟨rfl, d, rfl⟩)
          go_roundw
          case rel =>
            refine ⟨k + 1, by omega, by go_num, ?_⟩
            have := (hO.drewN d).set (HG.out ▸ Nat.le_refl _) (13 + k) (le4 ((bl nonce).drop (4 * k)))
            rw [bl_extract, List.take_of_length_le (by simp [bl_length])]
            exact this
          case measure => simp [intOf]; omega
        · obtain rfl : k = 3 := by omega
          rw [show ((3 : Nat) : Int) = 3 from rfl]
          obtain ⟨T, hT⟩ : ∃ T, T = fillW (bl nonce) 13 3 (S.set 12 n) := ⟨_, rfl⟩
          rw [← hT] at hO
          have hl : T.length = 16 := by rw [hT, fillW_length, List.length_set, HL.out]
          have hT' : T = start16 (bl key) (bl nonce) n := by rw [hT, HS.out]; rfl
          have hw : Words32 T := by rw [hT']; exact start16_words _ _ _ h1
          have HT := hide hT'
          have HL2 := hide hl
          have HW := hide hw
          clear hT hT' hl hw hk hlt
          have hO4 : Own2 w (wr.alloc (.cells (words T) 206)) G (G + 2) 206 T T :=
            ⟨hO.blk.alloc _, by have := Blk.new wr 206 (words T); rwa [hO.siz] at this, hO.bel.alloc (by have := hO.bel.size; omega) _, by simp [hO.siz]⟩
          have hsz := hide hO.siz
          have hblk := hide hO.blk
          have hi : (Tryd.prog.info? 206).map (·.size) = some (words T).size := by rw [words_size, HL2.out]; kernel_rfl
          have HI := hide hi
          clear hi
          have s16 : (words T).size = 16 := by rw [words_size, HL2.out]
          have HS16 := hide s16
          clear s16
          go_wp2_with (first
            | (refine wpList_load_row rfl 206 (.tmp 8) rfl G rfl 206 (words T) (0, 0) _ hblk.out Tryd.underlying206 rfl HI.out ?_)
            | (refine wpList_store_row rfl 206 (.tmp 11) (.tmp 62) rfl wr.heap.size (words T) rfl rfl 206 _ (Blk.new wr 206 _) HI.out (by rw [HS16.out]; rfl) (words_oneCell T) ?_; rw [setRow_alloc, hsz.out]))
          clear hblk HI HS16 hO hsz
          have HO4 := hide hO4
          clear hO4
          go_loopw [63] (fun i wq => ∃ r : Nat, r ≤ 10 ∧ i = .int .i64 r ∧ Own2 w wq G (G + 2) 206 T (rounds r T)) (fun i _ => 10 - (intOf i).toNat)
          case atStart => exact ⟨0, by omega, rfl, HO4.out⟩
          case round =>
            obtain ⟨wo, rfl⟩ : ∃ wo : World, wo = wr := ⟨_, rfl⟩
            clear HO4
            obtain ⟨r, hr, rfl, hO⟩ := hrel
            have hl := rounds_length r T
            have hw := rounds_words r HW.out
            rw [HL2.out] at hl
            by_cases hlt : r < 10
            · obtain ⟨R, hR⟩ : ∃ R, R = rounds r T := ⟨_, rfl⟩
              rw [← hR] at hO hl hw
              have HR := hide hR
              have HRl := hide hl
              have HRw := hide hw
              have HO := hide hO
              clear hR hl hw hO
              have hd : decide ((r : Int) < 10) = true := by simp; omega
              go_wp2
              go_loopw [65] (fun i wq => ∃ k : Nat, k ≤ 4 ∧ i = .int .i64 k ∧ Own2 w wq G (G + 2) 206 T (colR k R)) (fun i _ => 4 - (intOf i).toNat)
              case atStart => exact ⟨0, by omega, rfl, HO.out⟩
              case round =>
                clear HO
                obtain ⟨k, hk, rfl, hO⟩ := hrel
                by_cases hkl : k < 4
                · have HO := hide hO
                  clear hO
                  go_wp2_with (go_at_call 150; refine (quarter_int (G + 1) (colR k R) _ _ _ _ (by rw [colR_length, HRl.out]) (colR_words k HRw.out) (by omega) (by omega) (by omega) (by omega) (by omega) (by omega) (by omega) (by omega) _ _ HO.out.two).mono ?_; rintro e w' ⟨rfl, d, rfl⟩)
                  go_roundw
                  case rel =>
                    refine ⟨k + 1, by omega, by go_num, ?_⟩
                    have := HO.out.row (HG.out ▸ Nat.le_refl _) (colR (k + 1) R) d
                    exact this
                  case measure => simp [intOf]; omega
                · obtain rfl : k = 4 := by omega
                  rw [show ((4 : Nat) : Int) = 4 from rfl]
                  have HO := hide hO
                  clear hO hkl hk
                  go_wp2
                  go_loopw [77] (fun i wq => ∃ k : Nat, k ≤ 4 ∧ i = .int .i64 k ∧ Own2 w wq G (G + 2) 206 T (diaR k (colR 4 R))) (fun i _ => 4 - (intOf i).toNat)
                  case atStart => exact ⟨0, by omega, rfl, HO.out⟩
                  case round =>
                    clear HO
                    obtain ⟨k, hk, rfl, hO⟩ := hrel
                    by_cases hkl : k < 4
                    · have HO := hide hO
                      clear hO
                      go_wp2_with (go_at_call 150; refine (quarter_int (G + 1) (diaR k (colR 4 R)) _ _ _ _ (by rw [diaR_length, colR_length, HRl.out]) (diaR_words k (colR_words 4 HRw.out)) (by omega) (by omega) (by omega) (by omega) (by omega) (by omega) (by omega) (by omega) _ _ HO.out.two).mono ?_; rintro e w' ⟨rfl, d, rfl⟩)
                      go_roundw
                      case rel =>
                        refine ⟨k + 1, by omega, by go_num, ?_⟩
                        have := HO.out.row (HG.out ▸ Nat.le_refl _) (diaR (k + 1) (colR 4 R)) d
                        exact this
                      case measure => simp [intOf]; omega
                    · obtain rfl : k = 4 := by omega
                      rw [show ((4 : Nat) : Int) = 4 from rfl]
                      have HO := hide hO
                      clear hO hkl hk
                      go_wp2
                      go_roundw
                      case rel =>
                        refine ⟨r + 1, by omega, by go_num, ?_⟩
                        have := HO.out
                        rw [HR.out] at this
                        exact this
                      case measure => simp [intOf]; omega
            · obtain rfl : r = 10 := by omega
              rw [show ((10 : Nat) : Int) = 10 from rfl]
              obtain ⟨R, hR⟩ : ∃ R, R = rounds 10 T := ⟨_, rfl⟩
              rw [← hR] at hO hl hw
              have HR := hide hR
              have HRl := hide hl
              have HRw := hide hw
              have hblk := hide hO.two
              have HO := hide hO
              have hi : (Tryd.prog.info? 206).map (·.size) = some (words R).size := by rw [words_size, HRl.out]; kernel_rfl
              have HI := hide hi
              clear hR hl hw hO hi hlt hr
              go_wp2_with (refine wpList_load_row rfl 206 (.tmp 11) rfl (G + 1) rfl 206 (words R) (0, 0) _ hblk.out Tryd.underlying206 rfl HI.out ?_)
              go_loopw [14, 97] (fun v i wq => ∃ k : Nat, k ≤ 16 ∧ i = .int .i64 k ∧ Blk wq G 206 (words T) ∧ Below G wo wq ∧ wq.ownsRow (G + 2) 5 1 v (4 * k) (bytesV (outB R T k))) (fun _ i _ => 16 - (intOf i).toNat)
              case atStart => exact ⟨0, by omega, rfl, HO.out.one, Below.refl _ _, World.ownsRow_nil _ _ _ _⟩
              case round =>
                obtain ⟨k, hk, rfl, hB, hbel, hown⟩ := hrel
                by_cases hlt : k < 16
                · have hix := run_index_words (P := Tryd.prog) 206 121 16 R HRl.out Tryd.underlying206 Tryd.underlying121 (by kernel_rfl) k hlt
                  have cc := hB.word (i := k) (by rw [HL2.out]; exact hlt)
                  go_wp2_with (at_builtin; refine wpList_append_own _ rfl (.tmp 106) (.tmp 118) 111 rfl (G + 2) 5 i0 (.int .u8 0) 1 1 Tryd.underlying111 hi0 hz0 hz1 hz2 rfl (by decide) _ _ _ rfl (hown.alloc _) ⟨wr.heap.size, 0, none⟩ 4 4 (bytesV (w4 (add32 (nth R k) (nth T k)))) rfl rfl ?c1 (bytesV_oneCell _) ?c3 ?c4 ?c5 ?_)
                  case c1 =>
                    rw [w4_cells]
                    exact news_new wr _ _
                  case c3 => unfold maxLen; omega
                  case c4 => omega
                  case c5 =>
                    have := hbel.size
                    have := HO.out.siz
                    simp; omega
                  intro v' w1 hown1 hg1 _
                  have hne : some G ≠ u14.ownBlock := fun e => by have := hown.lt G e.symm; omega
                  have hB1 : Blk w1 G 206 (words T) := (hB.alloc _).grown hg1 hne
                  have hb1 : Below G wo w1 := (hbel.alloc (by have := hbel.size; have := HO.out.siz; omega) _).grown hg1 (by have := hbel.size; have := HO.out.siz; simp; omega) (fun q hq => by have := hown.lt q hq; omega)
                  have hown2 : w1.ownsRow (G + 2) 5 1 v' (4 * (k + 1)) (bytesV (outB R T (k + 1))) := by
                    rw [← bytesV_append] at hown1
                    exact hown1
                  clear hown hown1 hB hbel hg1 hne cc hix
                  go_wp2
                  go_roundw
                  case rel => exact ⟨k + 1, by omega, by go_num, hB1, hb1, hown2⟩
                  case measure => simp [intOf]; omega
                · obtain rfl : k = 16 := by omega
                  rw [show ((16 : Nat) : Int) = 16 from rfl]
                  have hcv := run_string_own (P := Tryd.prog) (src := 111) (dst := 9) Tryd.underlying111 Tryd.underlying5 Tryd.underlying9 hown
                  clear hlt hk hB
                  go_wp2
                  go_ret2
                  have hT := HT.out
                  have hR := HR.out
                  have hb := HO.out.bel
                  refine ⟨?_, ?_⟩
                  · show Ending.returned (Value.tuple #[.string (ofl (outB R T 16)), .nilIface]) = _
                    rw [hR, hT]
                    rfl
                  · have hG := HG.out
                    rw [← hG] at hb ⊢
                    exact hb.trans hbel
end Go.Proofs.YtmligbaalbbgiabDoor

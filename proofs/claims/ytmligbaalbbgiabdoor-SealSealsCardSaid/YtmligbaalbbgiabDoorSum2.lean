/- The function sum.block. Conditions: a text of 64 bytes; the variable sum.rounds holds its numbers. -/
import Derived.Test.YtmligbaalbbgiabDoorProg
import Derived.Test.YtmligbaalbbgiabDoorBase
import Derived.Test.YtmligbaalbbgiabDoorTail
import Derived.Test.YtmligbaalbbgiabDoorShaS
import Derived.Test.YtmligbaalbbgiabDoorSum1
namespace Go.Proofs.YtmligbaalbbgiabDoor
open Go.RowKit

def kS : List Nat := [1116352408, 1899447441, 3049323471, 3921009573, 961987163, 1508970993, 2453635748, 2870763221, 3624381080, 310598401, 607225278, 1426881987, 1925078388, 2162078206, 2614888103, 3248222580, 3835390401, 4022224774, 264347078, 604807628, 770255983, 1249150122, 1555081692, 1996064986, 2554220882, 2821834349, 2952996808, 3210313671, 3336571891, 3584528711, 113926993, 338241895, 666307205, 773529912, 1294757372, 1396182291, 1695183700, 1986661051, 2177026350, 2456956037, 2730485921, 2820302411, 3259730800, 3345764771, 3516065817, 3600352804, 4094571909, 275423344, 430227734, 506948616, 659060556, 883997877, 958139571, 1322822218, 1537002063, 1747873779, 1955562222, 2024104815, 2227730452, 2361852424, 2428436474, 2756734187, 3204031479, 3329325298]
/-- The variable sum.rounds holds its numbers. -/
def LaidR (w : World) : Prop := ∀ i, i < 64 → w.cell? ⟨2, i, none⟩ = some (.int .u32 ((nth kS i : Nat) : Int))
theorem LaidR.of_block {w w' : World} (h : LaidR w) (hb : w'.heap[2]? = w.heap[2]?) : LaidR w' :=
  fun i hi => (World.cell?_of_block (w := w) (w' := w') (a := ⟨2, i, none⟩) hb).trans (h i hi)
theorem LaidR.lt {w : World} (h : LaidR w) : 2 < w.heap.size := block_lt_of_cell (h 0 (by omega))
theorem LaidR.drewN {w : World} (h : LaidR w) (n : Nat) : LaidR (w.drewN n) := h
/-- Where a block is taken in: the words at H, the eight at g. -/
structure InB (w wr : World) (g H : Nat) (h W : List Nat) : Prop where
  row : Blk wr H 123 (words W)
  arg : Blk wr g 122 (words h)
  rnd : LaidR wr
  ne : g < H
  frame : w.grownBy wr (some g)
theorem InB.drewN {w wr : World} {g H : Nat} {h W : List Nat} (b : InB w wr g H h W) (n : Nat) : InB w (wr.drewN n) g H h W :=
  ⟨b.row.drewN n, b.arg.drewN n, b.rnd.drewN n, b.ne, grownBy_drewN b.frame n⟩
theorem InB.set {w wr : World} {g H : Nat} {h W : List Nat} (b : InB w wr g H h W) (hH : w.heap.size ≤ H) (h0 : 2 < w.heap.size) (i v : Nat) : InB w (wr.setCell ⟨H, i, none⟩ (.int .u32 (v : Int))) g H h (W.set i v) := by
  refine ⟨by rw [b.row.setWord]; exact b.row.setRow _, b.arg.far (by have := b.ne; show g ≠ H; omega) _, b.rnd.of_block (Below.heap_setCell _ _ _ _ (by show _ ≠ H; omega)), b.ne, ?_⟩
  refine ⟨b.frame.os, b.frame.tape, b.frame.output, by simpa [World.setCell] using b.frame.size, fun k hk hne => ?_⟩
  exact (Below.heap_setCell wr ⟨H, i, none⟩ _ k (by show k ≠ H; omega)).trans (b.frame.block k hk hne)
/-- The same, and the eight words that are turned, at V. -/
structure InV (w wr : World) (g H V : Nat) (h W v : List Nat) : Prop where
  base : InB w wr g H h W
  box : Blk wr V 122 (words v)
  ne : H < V
theorem InV.drewN {w wr : World} {g H V : Nat} {h W v : List Nat} (b : InV w wr g H V h W v) (n : Nat) : InV w (wr.drewN n) g H V h W v := ⟨b.base.drewN n, b.box.drewN n, b.ne⟩
theorem InV.row {w wr : World} {g H V : Nat} {h W v : List Nat} (b : InV w wr g H V h W v) (hH : w.heap.size ≤ H) (h0 : 2 < w.heap.size) (v' : List Nat) : InV w (wr.setRow V (words v')) g H V h W v' := by
  have h1 := b.ne
  have h2 := b.base.ne
  refine ⟨⟨?_, ?_, b.base.rnd.of_block (setRow_other wr V _ _ (by omega)), h2, ?_⟩, b.box.setRow v', h1⟩
  · exact (setRow_other wr V H _ (by omega)).trans b.base.row
  · exact (setRow_other wr V g _ (by omega)).trans b.base.arg
  · exact ⟨b.base.frame.os, b.base.frame.tape, b.base.frame.output, by simpa using b.base.frame.size, fun k hk hne => (setRow_other wr V k _ (by omega)).trans (b.base.frame.block k hk hne)⟩
theorem InV.put {w wr : World} {g H V : Nat} {h W v : List Nat} (b : InV w wr g H V h W v) (hg0 : 2 ≠ g) (i x : Nat) : InV w (wr.setCell ⟨g, i, none⟩ (.int .u32 (x : Int))) g H V (h.set i x) W v := by
  have h1 := b.ne
  have h2 := b.base.ne
  refine ⟨⟨b.base.row.far (by show H ≠ g; omega) _, ?_, b.base.rnd.of_block (Below.heap_setCell _ _ _ _ hg0), h2, grownBy_setCell b.base.frame i _⟩, b.box.far (by show V ≠ g; omega) _, h1⟩
  rw [b.base.arg.setWord]
  exact b.base.arg.setRow _

set_option maxRecDepth 100000 in
set_option maxHeartbeats 8000000 in
theorem block_any (g : Nat) (h : List Nat) (s : ByteArray) (hs : s.size = 64) (hl : h.length = 8) (hw : Words32 h) (w : World) (hB : Blk w g 122 (words h)) (hR : LaidR w) (hg0 : 2 ≠ g) :
    Calls Tryd.prog 148 #[.pointer (some ⟨g, 0, none⟩), .string s] w fun e w' => e = .returned (.tuple #[]) ∧ Blk w' g 122 (words (blockS kS h (bl s))) ∧ w.grownBy w' (some g) := by
  have hgl := hB.lt
  have h0l := hR.lt
  have HI : InB w (w.alloc (.cells (words zeros64) 123)) g w.heap.size h zeros64 :=
    ⟨Blk.new _ _ _, hB.alloc _, hR.of_block (Below.heap_alloc w _ _ h0l), hgl, World.grownBy_alloc w _ _⟩
  have HI1 := hide HI
  clear HI
  obtain ⟨H, hH⟩ : ∃ H, H = w.heap.size := ⟨_, rfl⟩
  obtain ⟨W1, hW1⟩ : ∃ W1, W1 = w.alloc (.cells (words zeros64) 123) := ⟨_, rfl⟩
  rw [← hH, ← hW1] at HI1
  have HH := hide hH
  have HW1 := hide hW1
  have HL := hide hl
  have HW := hide hw
  have HG0 := hide hg0
  have H0L := hide h0l
  have HS := hide hs
  have s1 : 64 ≤ s.size := by omega
  have s2 : s.size ≤ 64 := by omega
  clear hgl h0l hH hW1 hl hw hs hg0 hB hR
  go_enter Tryd.func148, Tryd.ntmps148
  go_wp2
  rw [← HH.out]
  rw [show w.alloc (Obj.cells #[Value.int IntKind.u32 0, Value.int IntKind.u32 0, Value.int IntKind.u32 0, Value.int IntKind.u32 0, Value.int IntKind.u32 0, Value.int IntKind.u32 0, Value.int IntKind.u32 0, Value.int IntKind.u32 0, Value.int IntKind.u32 0, Value.int IntKind.u32 0, Value.int IntKind.u32 0, Value.int IntKind.u32 0, Value.int IntKind.u32 0, Value.int IntKind.u32 0, Value.int IntKind.u32 0, Value.int IntKind.u32 0, Value.int IntKind.u32 0, Value.int IntKind.u32 0, Value.int IntKind.u32 0, Value.int IntKind.u32 0, Value.int IntKind.u32 0, Value.int IntKind.u32 0, Value.int IntKind.u32 0, Value.int IntKind.u32 0, Value.int IntKind.u32 0, Value.int IntKind.u32 0, Value.int IntKind.u32 0, Value.int IntKind.u32 0, Value.int IntKind.u32 0, Value.int IntKind.u32 0, Value.int IntKind.u32 0, Value.int IntKind.u32 0, Value.int IntKind.u32 0, Value.int IntKind.u32 0, Value.int IntKind.u32 0, Value.int IntKind.u32 0, Value.int IntKind.u32 0, Value.int IntKind.u32 0, Value.int IntKind.u32 0, Value.int IntKind.u32 0, Value.int IntKind.u32 0, Value.int IntKind.u32 0, Value.int IntKind.u32 0, Value.int IntKind.u32 0, Value.int IntKind.u32 0, Value.int IntKind.u32 0, Value.int IntKind.u32 0, Value.int IntKind.u32 0, Value.int IntKind.u32 0, Value.int IntKind.u32 0, Value.int IntKind.u32 0, Value.int IntKind.u32 0, Value.int IntKind.u32 0, Value.int IntKind.u32 0, Value.int IntKind.u32 0, Value.int IntKind.u32 0, Value.int IntKind.u32 0, Value.int IntKind.u32 0, Value.int IntKind.u32 0, Value.int IntKind.u32 0, Value.int IntKind.u32 0, Value.int IntKind.u32 0, Value.int IntKind.u32 0, Value.int IntKind.u32 0] 123) = W1 from HW1.out.symm]
  go_loopw [16] (fun i wr => ∃ k : Nat, k ≤ 16 ∧ i = .int .i64 (k : Int) ∧ InB w wr g H h (wordsB (bl s) k zeros64)) (fun i _ => 16 - (intOf i).toNat)
  case atStart => exact ⟨0, by omega, rfl, HI1.out⟩
  case round =>
    clear HI1 HW1
    obtain ⟨w1, rfl⟩ : ∃ w1 : World, w1 = wr := ⟨_, rfl⟩
    obtain ⟨k, hk, rfl, hI⟩ := hrel
    by_cases hlt : k < 16
    · have i0 : 4 * (k : Int) < (s.size : Int) := by omega
      have j0 : (0 : Int) ≤ 4 * (k : Int) := by omega
      have j1 : (0 : Int) ≤ 4 * (k : Int) + 1 := by omega
      have j2 : (0 : Int) ≤ 4 * (k : Int) + 2 := by omega
      have j3 : (0 : Int) ≤ 4 * (k : Int) + 3 := by omega
      have i1 : 4 * (k : Int) + 1 < (s.size : Int) := by omega
      have i2 : 4 * (k : Int) + 2 < (s.size : Int) := by omega
      have i3 : 4 * (k : Int) + 3 < (s.size : Int) := by omega
      have c0 : decide ((k : Int) < 16) = true := by simp; omega
      have cx := hI.row.word (i := k) (by rw [wordsB_length, zeros64_length]; omega)
      have cf := hI.row.frozen k
      have HI := hide hI
      clear hI
      go_upto_region 4 with fail
      refine wp_region_quiet_tail 31 (by kernel_rfl) (by kernel_rfl) ?_
      simp only [List.take_succ_cons, List.take_zero, List.drop_succ_cons, List.drop_zero]
      repeat (go_big_quiet_step (fail))
      refine wpQuiet_nil ?_
      intro nq
      go_wp2_with fail
      have hv : bits BinOp.or IntKind.u32 (bits BinOp.or IntKind.u32 (bits BinOp.or IntKind.u32 (((s[4 * k]'(by omega)).toNat : Int) % 4294967296 * 16777216 % 4294967296) (((s[4 * k + 1]'(by omega)).toNat : Int) % 4294967296 * 65536 % 4294967296)) (((s[4 * k + 2]'(by omega)).toNat : Int) % 4294967296 * 256 % 4294967296)) (((s[4 * k + 3]'(by omega)).toNat : Int) % 4294967296)
          = ((be4 ((bl s).drop (4 * k)) : Nat) : Int) := by
        rw [be4, show byteAt ((bl s).drop (4 * k)) 0 = (s[4 * k]'(by omega)).toNat from by rw [byteAt_drop]; exact byteAt_bl s _ (by omega),
          show byteAt ((bl s).drop (4 * k)) 1 = (s[4 * k + 1]'(by omega)).toNat from by rw [byteAt_drop]; exact byteAt_bl s _ (by omega),
          show byteAt ((bl s).drop (4 * k)) 2 = (s[4 * k + 2]'(by omega)).toNat from by rw [byteAt_drop]; exact byteAt_bl s _ (by omega),
          show byteAt ((bl s).drop (4 * k)) 3 = (s[4 * k + 3]'(by omega)).toNat from by rw [byteAt_drop]; exact byteAt_bl s _ (by omega)]
        exact be4_bits _ _ _ _ (UInt8.toNat_lt _) (UInt8.toNat_lt _) (UInt8.toNat_lt _) (UInt8.toNat_lt _)
      rw [hv]
      go_roundw
      case rel => exact ⟨k + 1, by omega, by go_num, (HI.out.drewN nq).set (HH.out ▸ Nat.le_refl _) H0L.out k _⟩
      case measure => simp [intOf]; omega
    · obtain rfl : k = 16 := by omega
      rw [show ((16 : Nat) : Int) = 16 from rfl]
      obtain ⟨A, hA⟩ : ∃ A, A = wordsB (bl s) 16 zeros64 := ⟨_, rfl⟩
      rw [← hA] at hI
      have HA := hide hA
      have HAl : Hid (A.length = 64) := hide (by rw [hA, wordsB_length, zeros64_length])
      have HAw : Hid (Words32 A) := hide (by rw [hA]; exact wordsB_words _ _ zeros64_words)
      have HI := hide hI
      clear hA hI hk hlt s1 s2
      go_wp2
      go_loopw [6] (fun i wr => ∃ I : Nat, 16 ≤ I ∧ I ≤ 64 ∧ i = .int .i64 (I : Int) ∧ InB w wr g H h (sched (I - 16) A)) (fun i _ => 64 - (intOf i).toNat)
      case atStart => exact ⟨16, by omega, by omega, rfl, HI.out⟩
      case round =>
        clear HI
        obtain ⟨w2, rfl⟩ : ∃ w2 : World, w2 = wr := ⟨_, rfl⟩
        obtain ⟨I, hI1, hI2, rfl, hI⟩ := hrel
        by_cases hlt : I < 64
        · have c0 : decide ((I : Int) < 64) = true := by simp; omega
          obtain ⟨L, hL⟩ : ∃ L, L = sched (I - 16) A := ⟨_, rfl⟩
          rw [← hL] at hI
          have HL1 := hide hL
          have HLl : Hid (L.length = 64) := hide (by rw [hL, sched_length, HAl.out])
          have HLw : Hid (Words32 L) := hide (by rw [hL]; exact sched_words _ HAw.out)
          have c15 := hI.row.word (i := I - 15) (by rw [HLl.out]; omega)
          have c2 := hI.row.word (i := I - 2) (by rw [HLl.out]; omega)
          have j15 : (0 : Int) ≤ (I : Int) - 15 := by omega
          have l15 : (I : Int) - 15 < 64 := by omega
          have t15 : ((I : Int) - 15).toNat = I - 15 := by omega
          have w15 : IntKind.i64.wrap ((I : Int) - 15) = (I : Int) - 15 := IntWalk.i64_in _ (by omega)
          have w2' : IntKind.i64.wrap ((I : Int) - 2) = (I : Int) - 2 := IntWalk.i64_in _ (by omega)
          have j2 : (0 : Int) ≤ (I : Int) - 2 := by omega
          have l2 : (I : Int) - 2 < 64 := by omega
          have t2 : ((I : Int) - 2).toNat = I - 2 := by omega
          have HI := hide hI
          clear hI hL
          go_upto_region 9 with fail
          go_quiet ((go_at_call 176; exact Calls.quiet_of (sumturn_int _ _ (HLw.out _) (by omega) (by omega) _)))
          rw [sgm0_bits (HLw.out _)]
          obtain ⟨X0, hX0⟩ : ∃ X, X = sgm0 (nth L (I - 15)) := ⟨_, rfl⟩
          rw [← hX0]
          have HX0 := hide hX0
          have HI1 := hide (HI.out.drewN nq)
          obtain ⟨w3, hw3⟩ : ∃ w3, w3 = w2.drewN nq := ⟨_, rfl⟩
          rw [← hw3] at HI1 ⊢
          clear hX0 hw3 HI c15 c2 j15 l15 t15 w15
          have c2 := HI1.out.row.word (i := I - 2) (by rw [HLl.out]; omega)
          go_upto_region 10 with fail
          go_quiet ((go_at_call 176; exact Calls.quiet_of (sumturn_int _ _ (HLw.out _) (by omega) (by omega) _)))
          rw [sgm1_bits (HLw.out _)]
          obtain ⟨X1, hX1⟩ : ∃ X, X = sgm1 (nth L (I - 2)) := ⟨_, rfl⟩
          rw [← hX1]
          have HX1 := hide hX1
          have HI2 := hide (HI1.out.drewN nq)
          obtain ⟨w4, hw4⟩ : ∃ w4, w4 = w3.drewN nq := ⟨_, rfl⟩
          rw [← hw4] at HI2 ⊢
          clear hX1 hw4 HI1 c2 j2 l2 t2 w2'
          have c16 := HI2.out.row.word (i := I - 16) (by rw [HLl.out]; omega)
          have c7 := HI2.out.row.word (i := I - 7) (by rw [HLl.out]; omega)
          have cI := HI2.out.row.word (i := I) (by rw [HLl.out]; omega)
          have cf := HI2.out.row.frozen I
          have j16 : (0 : Int) ≤ (I : Int) - 16 := by omega
          have l16 : (I : Int) - 16 < 64 := by omega
          have t16 : ((I : Int) - 16).toNat = I - 16 := by omega
          have w16 : IntKind.i64.wrap ((I : Int) - 16) = (I : Int) - 16 := IntWalk.i64_in _ (by omega)
          have j7 : (0 : Int) ≤ (I : Int) - 7 := by omega
          have l7 : (I : Int) - 7 < 64 := by omega
          have t7 : ((I : Int) - 7).toNat = I - 7 := by omega
          have w7 : IntKind.i64.wrap ((I : Int) - 7) = (I : Int) - 7 := IntWalk.i64_in _ (by omega)
          go_upto_region 11 with fail
          refine wp_region_quiet_tail 15 (by kernel_rfl) (by kernel_rfl) ?_
          simp only [List.take_succ_cons, List.take_zero, List.drop_succ_cons, List.drop_zero]
          repeat (go_big_quiet_step (fail))
          refine wpQuiet_nil ?_
          intro nq
          go_wp2_with fail
          rw [cast_add4]
          go_roundw
          case rel =>
            refine ⟨I + 1, by omega, by omega, by go_num, ?_⟩
            have h1 := (HI2.out.drewN nq).set (HH.out ▸ Nat.le_refl _) H0L.out I (add32 (add32 (add32 (nth L (I - 16)) X0) (nth L (I - 7))) X1)
            have e : sched (I + 1 - 16) A = L.set I (add32 (add32 (add32 (nth L (I - 16)) X0) (nth L (I - 7))) X1) := by
              rw [show I + 1 - 16 = (I - 16) + 1 from by omega, sched, ← HL1.out, show 16 + (I - 16) = I from by omega, HX0.out, HX1.out]
              rfl
            rw [e]
            exact h1
          case measure => simp [intOf]; omega
        · obtain rfl : I = 64 := by omega
          rw [show ((64 : Nat) : Int) = 64 from rfl]
          obtain ⟨L, hL⟩ : ∃ L, L = sched 48 A := ⟨_, rfl⟩
          rw [show 64 - 16 = 48 from rfl, ← hL] at hI
          have HL1 := hide hL
          have HLl : Hid (L.length = 64) := hide (by rw [hL, sched_length, HAl.out])
          have HLw : Hid (Words32 L) := hide (by rw [hL]; exact sched_words _ HAw.out)
          have HI := hide hI
          have hi : (Tryd.prog.info? 122).map (·.size) = some (words h).size := by rw [words_size, HL.out]; kernel_rfl
          have HIN := hide hi
          have h8 : (words h).size = 8 := by rw [words_size, HL.out]
          have HS8 := hide h8
          have HBL := hide hI.arg
          clear hL hI hi h8 hI1 hI2 hlt
          go_wp2_with (first
            | (refine wpList_load_row rfl 122 (.tmp 105) rfl g rfl 122 (words h) (0, 0) _ HBL.out Tryd.underlying122 rfl HIN.out ?_)
            | (refine wpList_store_row rfl 122 (.tmp 9) (.tmp 106) rfl w2.heap.size (words h) rfl rfl 122 _ (Blk.new w2 122 _) HIN.out (by rw [HS8.out]; rfl) (words_oneCell h) ?_; rw [setRow_alloc]))
          have HV : Hid (InV w (w2.alloc (.cells (words h) 122)) g H w2.heap.size h L h) := by
            have hI := HI.out
            refine hide ⟨⟨hI.row.alloc _, hI.arg.alloc _, hI.rnd.of_block (Below.heap_alloc w2 _ _ hI.rnd.lt), hI.ne, hI.frame.trans (World.grownBy_alloc w2 _ _)⟩, Blk.new _ _ _, hI.row.lt⟩
          obtain ⟨V, hV⟩ : ∃ V, V = w2.heap.size := ⟨_, rfl⟩
          obtain ⟨w3, hw3⟩ : ∃ w3, w3 = w2.alloc (.cells (words h) 122) := ⟨_, rfl⟩
          rw [← hV, ← hw3] at HV ⊢
          clear hV hw3 HI HBL
          go_loopw [107] (fun i wr => ∃ k : Nat, k ≤ 64 ∧ i = .int .i64 (k : Int) ∧ InV w wr g H V h L (roundsS kS L k h)) (fun i _ => 64 - (intOf i).toNat)
          case atStart => exact ⟨0, by omega, rfl, HV.out⟩
          case round =>
            clear HV
            obtain ⟨x1, rfl⟩ : ∃ x1 : World, x1 = wr := ⟨_, rfl⟩
            obtain ⟨k, hk, rfl, hI⟩ := hrel
            by_cases hlt : k < 64
            · have c0 : decide ((k : Int) < 64) = true := by simp; omega
              obtain ⟨v, hv⟩ : ∃ v, v = roundsS kS L k h := ⟨_, rfl⟩
              rw [← hv] at hI
              have HV := hide hv
              have HVl : Hid (v.length = 8) := hide (by rw [hv, roundsS_length _ _ _ HL.out])
              have HVw : Hid (Words32 v) := hide (by rw [hv]; exact roundsS_words _ _ _ HW.out)
              have v4 := hI.box.word (i := 4) (by rw [HVl.out]; omega)
              have HI := hide hI
              clear hv hI
              go_upto_region 16 with fail
              go_quiet ((go_at_call 176; exact Calls.quiet_of (sumturn_int _ _ (HVw.out _) (by omega) (by omega) _)))
              rw [bigS1_bits (HVw.out _)]
              obtain ⟨X1, hX1⟩ : ∃ X, X = bigS1 (nth v 4) := ⟨_, rfl⟩
              rw [← hX1]
              have HX1 := hide hX1
              have HI1 := hide (HI.out.drewN nq)
              obtain ⟨x2, hx2⟩ : ∃ x2, x2 = x1.drewN nq := ⟨_, rfl⟩
              rw [← hx2] at HI1 ⊢
              clear hX1 hx2 HI v4
              have v4 := HI1.out.box.word (i := 4) (by rw [HVl.out]; omega)
              have v5 := HI1.out.box.word (i := 5) (by rw [HVl.out]; omega)
              have v6 := HI1.out.box.word (i := 6) (by rw [HVl.out]; omega)
              have v7 := HI1.out.box.word (i := 7) (by rw [HVl.out]; omega)
              have ck := HI1.out.base.rnd k hlt
              have cw := HI1.out.base.row.word (i := k) (by rw [HLl.out]; exact hlt)
              go_upto_region 17 with fail
              go_quiet (fail)
              rw [ch_bits (HVw.out _) (HVw.out _) (HVw.out _), cast_one]
              obtain ⟨O, hO⟩ : ∃ X, X = add32 (add32 (add32 (add32 (nth v 7) X1) (chS (nth v 4) (nth v 5) (nth v 6))) (nth kS k)) (nth L k) := ⟨_, rfl⟩
              rw [← hO]
              have HO : Hid (O = oneS (nth kS k) (nth L k) v) := hide (by rw [hO, HX1.out]; rfl)
              have HI2 := hide (HI1.out.drewN nq)
              obtain ⟨x3, hx3⟩ : ∃ x3, x3 = x2.drewN nq := ⟨_, rfl⟩
              rw [← hx3] at HI2 ⊢
              clear hO hx3 HI1 v4 v5 v6 v7 ck cw
              have v0 := HI2.out.box.word (i := 0) (by rw [HVl.out]; omega)
              go_upto_region 18 with fail
              go_quiet ((go_at_call 176; exact Calls.quiet_of (sumturn_int _ _ (HVw.out _) (by omega) (by omega) _)))
              rw [bigS0_bits (HVw.out _)]
              obtain ⟨X0, hX0⟩ : ∃ X, X = bigS0 (nth v 0) := ⟨_, rfl⟩
              rw [← hX0]
              have HX0 := hide hX0
              have HI3 := hide (HI2.out.drewN nq)
              obtain ⟨x4, hx4⟩ : ∃ x4, x4 = x3.drewN nq := ⟨_, rfl⟩
              rw [← hx4] at HI3 ⊢
              clear hX0 hx4 HI2 v0
              have v0 := HI3.out.box.word (i := 0) (by rw [HVl.out]; omega)
              have v1 := HI3.out.box.word (i := 1) (by rw [HVl.out]; omega)
              have v2 := HI3.out.box.word (i := 2) (by rw [HVl.out]; omega)
              go_upto_region 20 with fail
              rw [maj_bits (HVw.out _) (HVw.out _) (HVw.out _), cast_add32]
              obtain ⟨T, hT⟩ : ∃ X, X = add32 X0 (majS (nth v 0) (nth v 1) (nth v 2)) := ⟨_, rfl⟩
              rw [← hT]
              have HT : Hid (T = twoS v) := hide (by rw [hT, HX0.out]; rfl)
              have v3 := HI3.out.box.word (i := 3) (by rw [HVl.out]; omega)
              have v4 := HI3.out.box.word (i := 4) (by rw [HVl.out]; omega)
              have v5 := HI3.out.box.word (i := 5) (by rw [HVl.out]; omega)
              have v6 := HI3.out.box.word (i := 6) (by rw [HVl.out]; omega)
              clear hT
              have cells : words (roundS (nth kS k) (nth L k) v) = #[.int .u32 (((O : Int) + (T : Int)) % 4294967296), .int .u32 ((nth v 0 : Nat) : Int), .int .u32 ((nth v 1 : Nat) : Int), .int .u32 ((nth v 2 : Nat) : Int), .int .u32 ((((nth v 3 : Nat) : Int) + (O : Int)) % 4294967296), .int .u32 ((nth v 4 : Nat) : Int), .int .u32 ((nth v 5 : Nat) : Int), .int .u32 ((nth v 6 : Nat) : Int)] := by
                rw [cast_add32, cast_add32, HO.out, HT.out]
                rfl
              have HC := hide cells
              have hin : (Tryd.prog.info? 122).map (·.size) = some 8 := by kernel_rfl
              have HIN8 := hide hin
              have HBX := hide HI3.out.box
              have h8 : (words v).size = 8 := by rw [words_size, HVl.out]
              have HS8v := hide h8
              clear cells hin h8
              go_wp2_with (refine wpList_store_row rfl 122 (.tmp 9) (.tmp 195) rfl V #[.int .u32 (((O : Int) + (T : Int)) % 4294967296), .int .u32 ((nth v 0 : Nat) : Int), .int .u32 ((nth v 1 : Nat) : Int), .int .u32 ((nth v 2 : Nat) : Int), .int .u32 ((((nth v 3 : Nat) : Int) + (O : Int)) % 4294967296), .int .u32 ((nth v 4 : Nat) : Int), .int .u32 ((nth v 5 : Nat) : Int), .int .u32 ((nth v 6 : Nat) : Int)] rfl rfl 122 _ HBX.out HIN8.out (by rw [HS8v.out]; rfl) (by rw [← HC.out]; exact words_oneCell _) ?_; rw [← HC.out])
              go_roundw
              case rel =>
                refine ⟨k + 1, by omega, by go_num, ?_⟩
                have h1 := HI3.out.row (HH.out ▸ Nat.le_refl _) H0L.out (roundS (nth kS k) (nth L k) v)
                have e : roundsS kS L (k + 1) h = roundS (nth kS k) (nth L k) v := by rw [roundsS, HV.out]
                rw [e]
                exact h1
              case measure => simp [intOf]; omega
            · obtain rfl : k = 64 := by omega
              rw [show ((64 : Nat) : Int) = 64 from rfl]
              obtain ⟨v, hv⟩ : ∃ v, v = roundsS kS L 64 h := ⟨_, rfl⟩
              rw [← hv] at hI
              have HV := hide hv
              have HVl : Hid (v.length = 8) := hide (by rw [hv, roundsS_length _ _ _ HL.out])
              have HVw : Hid (Words32 v) := hide (by rw [hv]; exact roundsS_words _ _ _ HW.out)
              have HI := hide hI
              clear hv hI hk hlt
              go_wp2
              go_loopw [197] (fun i wr => ∃ k : Nat, k ≤ 8 ∧ i = .int .i64 (k : Int) ∧ InV w wr g H V (addUp v k h) L v) (fun i _ => 8 - (intOf i).toNat)
              case atStart => exact ⟨0, by omega, rfl, HI.out⟩
              case round =>
                clear HI
                obtain ⟨y1, rfl⟩ : ∃ y1 : World, y1 = wr := ⟨_, rfl⟩
                obtain ⟨k, hk, rfl, hI⟩ := hrel
                by_cases hlt : k < 8
                · have c0 : decide ((k : Int) < 8) = true := by simp; omega
                  have ca := hI.base.arg.word (i := k) (by rw [addUp_length, HL.out]; exact hlt)
                  have cf := hI.base.arg.frozen k
                  have cv := hI.box.word (i := k) (by rw [HVl.out]; exact hlt)
                  have HI := hide hI
                  clear hI
                  go_upto_region 25 with fail
                  refine wp_region_quiet_tail 11 (by kernel_rfl) (by kernel_rfl) ?_
                  simp only [List.take_succ_cons, List.take_zero, List.drop_succ_cons, List.drop_zero]
                  repeat (go_big_quiet_step (fail))
                  refine wpQuiet_nil ?_
                  intro nq
                  go_wp2_with fail
                  rw [cast_add32]
                  go_roundw
                  case rel => exact ⟨k + 1, by omega, by go_num, (HI.out.drewN nq).put HG0.out k _⟩
                  case measure => simp [intOf]; omega
                · obtain rfl : k = 8 := by omega
                  rw [show ((8 : Nat) : Int) = 8 from rfl]
                  have HI := hide hI
                  clear hI hk hlt
                  go_wp2
                  go_end0
                  refine ⟨rfl, ?_, HI.out.base.frame⟩
                  have h1 := HI.out.base.arg
                  rw [HV.out, HL1.out, HA.out] at h1
                  exact h1
end Go.Proofs.YtmligbaalbbgiabDoor

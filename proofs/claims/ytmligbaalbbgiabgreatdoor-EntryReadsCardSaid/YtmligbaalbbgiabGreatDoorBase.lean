/- Small facts on worlds, blocks of memory and lists, for all texts of this seat. It states nothing about the program. -/
import Derived.WalkKit
import Derived.WalkSpells
import Derived.WalkLawsBesides
import Derived.Deep.QuietTactic
import Derived.Deep.RegionWith
import Derived.Deep.RegionHeld3
import Derived.Deep.AppendLies
import Derived.Maps.AppendAt
import Derived.Deep.MidRow
import Derived.Deep.DeepCutAuto
import Derived.BigQuiet
import Derived.BigRegion
import Derived.Lib.Hide
import Derived.Laws.BitsAllLaws
import Derived.Laws.OwnMore
import Derived.Deep.Draws
import Derived.Laws.Rows
import Derived.Lib.Strings
import Derived.Laws.BytesArg
namespace Go.Proofs.YtmligbaalbbgiabGreatDoor
open Go.RowKit

theorem hide {p : Prop} (h : p) : Hid p := h

def Blk (w : World) (g : Nat) (t : TypeId) (cs : Array Value) : Prop := w.heap[g]? = some (.cells cs t (0, 0))

section
variable {w w' : World} {g : Nat} {t : TypeId} {cs : Array Value}
theorem Blk.lt (h : Blk w g t cs) : g < w.heap.size := by
  rcases Nat.lt_or_ge g w.heap.size with hlt | hge
  · exact hlt
  · unfold Blk at h; rw [Array.getElem?_eq_none hge] at h; cases h
theorem Blk.cell (h : Blk w g t cs) (i : Nat) : w.cell? ⟨g, i, none⟩ = cs[i]? := cell_of_row w g i cs t (0, 0) h
theorem Blk.frozen (h : Blk w g t cs) (i : Nat) : w.frozen? ⟨g, i, none⟩ = false := by
  unfold Blk at h
  simp [World.frozen?, h]
theorem Blk.new (w : World) (t : TypeId) (cs : Array Value) : Blk (w.alloc (.cells cs t)) w.heap.size t cs := heap_alloc_new w _
theorem Blk.drew (h : Blk w g t cs) : Blk w.drew g t cs := h
theorem Blk.drewN (h : Blk w g t cs) (n : Nat) : Blk (w.drewN n) g t cs := h
theorem Blk.alloc (h : Blk w g t cs) (o : Obj) : Blk (w.alloc o) g t cs := (Below.heap_alloc w o g h.lt).trans h
theorem Blk.set_ (h : Blk w g t cs) (i : Nat) (u : Value) : Blk (w.setCell ⟨g, i, none⟩ u) g t (cs.setIfInBounds i u) := by
  unfold Blk at h ⊢
  simp [World.setCell, Array.getElem?_modify, h]
theorem Blk.far (h : Blk w g t cs) {p : Addr} (hp : g ≠ p.block) (u : Value) : Blk (w.setCell p u) g t cs := (Below.heap_setCell w p u g hp).trans h
theorem Blk.below {B : Nat} (h : Blk w g t cs) (hb : Below B w w') (hg : g < B) : Blk w' g t cs := (hb.block g hg).trans h
theorem Blk.grown {row : Option Nat} (h : Blk w g t cs) (hb : w.grownBy w' row) (hg : some g ≠ row) : Blk w' g t cs := (hb.block g h.lt hg).trans h
theorem Blk.ne_ {g' : Nat} {t' : TypeId} {cs' : Array Value} (h : Blk w g t cs) (h' : Blk w g' t' cs') (hne : t ≠ t') : g ≠ g' := by
  rintro rfl
  unfold Blk at h h'
  rw [h] at h'
  injection h' with h'
  injection h' with _ ht
  exact hne ht
theorem own_blk_ne {base : Nat} {e : TypeId} {size n : Nat} {v : Value} {xs : List Value} (h : w.ownsRow base e size v n xs) (hg : Blk w g t cs) (hne : e ≠ t) : v.ownBlock ≠ some g := by
  rcases h.2 with ⟨rfl, _⟩ | ⟨g', cap, cur, rfl, _, hh, _⟩
  · simp [Value.ownBlock]
  · intro he
    have : g' = g := by simpa [Value.ownBlock] using he
    subst this
    exact Blk.ne_ (t := e) hh hg hne rfl
end

/-- Words of 32 bits as values. -/
def wv (n : Nat) : Value := .int .u32 (n : Int)
/-- A list of words as cells. -/
def words (l : List Nat) : Array Value := (l.map wv).toArray
/-- A list's number at a place. -/
def nth (l : List Nat) (i : Nat) : Nat := l.getD i 0
/-- A list all of whose numbers are words of 32 bits. -/
def Words32 (l : List Nat) : Prop := ∀ i, nth l i < 4294967296
def xor32 (a b : Nat) : Nat := a ^^^ b
def add32 (a b : Nat) : Nat := (a + b) % 4294967296

theorem words_size (l : List Nat) : (words l).size = l.length := by simp [words]
theorem words_get (l : List Nat) (i : Nat) (h : i < l.length) : (words l)[i]? = some (.int .u32 ((nth l i : Nat) : Int)) := by
  simp [words, wv, nth, List.getD, h]
theorem words_set (l : List Nat) (i v : Nat) : (words l).setIfInBounds i (.int .u32 ((v : Nat) : Int)) = words (l.set i v) := by
  simp [words, wv, List.map_set]
theorem nth_set_self (l : List Nat) (i v : Nat) (h : i < l.length) : nth (l.set i v) i = v := by simp [nth, List.getD, h]
theorem nth_set_other (l : List Nat) (i j v : Nat) (h : i ≠ j) : nth (l.set i v) j = nth l j := by simp [nth, List.getD, h]
theorem Words32.set {l : List Nat} (h : Words32 l) (i v : Nat) (hv : v < 4294967296) : Words32 (l.set i v) := by
  intro j
  by_cases hj : i = j
  · subst hj
    by_cases hi : i < l.length
    · rw [nth_set_self l i v hi]; exact hv
    · simp [nth, List.getD, List.getElem?_eq_none (show (l.set i v).length ≤ i by simp; omega)]
  · rw [nth_set_other l i j v hj]; exact h j
theorem xor32_lt {a b : Nat} (ha : a < 4294967296) (hb : b < 4294967296) : xor32 a b < 4294967296 := Nat.xor_lt_two_pow (n := 32) ha hb
theorem add32_lt (a b : Nat) : add32 a b < 4294967296 := Nat.mod_lt _ (by omega)
theorem bits_xor32 {a b : Nat} (ha : a < 4294967296) (hb : b < 4294967296) : bits .xor .u32 (a : Int) (b : Int) = ((xor32 a b : Nat) : Int) := u32_xor_nat a b ha hb
theorem cast_add32 (a b : Nat) : ((a : Int) + (b : Int)) % 4294967296 = ((add32 a b : Nat) : Int) := by unfold add32; omega

section
variable {w : World} {g t : Nat} {l : List Nat}
theorem Blk.word (h : Blk w g t (words l)) {i : Nat} (hi : i < l.length) : w.cell? ⟨g, i, none⟩ = some (.int .u32 ((nth l i : Nat) : Int)) := by
  rw [h.cell, words_get l i hi]
theorem Blk.setRow (h : Blk w g t (words l)) (l' : List Nat) : Blk (w.setRow g (words l')) g t (words l') := setRow_heap w g _ _ t _ h
theorem Blk.setWord (h : Blk w g t (words l)) (i v : Nat) : w.setCell ⟨g, i, none⟩ (.int .u32 ((v : Nat) : Int)) = w.setRow g (words (l.set i v)) := by
  rw [setCell_eq_setRow w g i (words l) t (0, 0) _ h, words_set]
theorem setRow_setRow (w : World) (g : Nat) (a b : Array Value) : (w.setRow g a).setRow g b = w.setRow g b := by
  simp only [World.setRow, World.mk.injEq, and_self, and_true]
  apply Array.ext (by simp)
  intro i h1 h2
  simp only [Array.getElem_modify]
  by_cases hi : g = i
  · simp only [hi, if_true]
    cases w.heap[i]'(by simpa using h2) <;> rfl
  · simp only [hi, if_false]
theorem setRow_same {w : World} {g t : Nat} {cs : Array Value} (h : Blk w g t cs) : w.setRow g cs = w := by
  unfold Blk at h
  have hlt : g < w.heap.size := (Array.getElem?_eq_some_iff.1 h).1
  have hv : w.heap[g] = .cells cs t (0, 0) := (Array.getElem?_eq_some_iff.1 h).2
  obtain ⟨heap, tape, drawn, os, output⟩ := w
  simp only [World.setRow, World.mk.injEq, and_self, and_true]
  apply Array.ext (by simp)
  intro i h1 h2
  simp only [Array.getElem_modify]
  by_cases hi : g = i
  · subst hi
    simp only [if_true]
    simp only at hv
    rw [hv]
  · simp only [hi, if_false]
theorem setRow_drewN (w : World) (g k : Nat) (a : Array Value) : (w.drewN k).setRow g a = (w.setRow g a).drewN k := rfl
end

/-- A text's bytes, as a list; a list of bytes as a text. -/
def bl (s : ByteArray) : List UInt8 := s.data.toList
def ofl (l : List UInt8) : ByteArray := ⟨l.toArray⟩
theorem bl_ofl (l : List UInt8) : bl (ofl l) = l := rfl
theorem ofl_bl (s : ByteArray) : ofl (bl s) = s := by obtain ⟨⟨l⟩⟩ := s; rfl
theorem bl_length (s : ByteArray) : (bl s).length = s.size := by obtain ⟨⟨l⟩⟩ := s; rfl
theorem ofl_size (l : List UInt8) : (ofl l).size = l.length := rfl
theorem bl_inj {s t : ByteArray} (h : bl s = bl t) : s = t := by rw [← ofl_bl s, ← ofl_bl t, h]
theorem bl_extract (s : ByteArray) (a b : Nat) : bl (s.extract a b) = ((bl s).drop a).take (b - a) := by
  unfold bl
  rw [Lib.extract_data]
/-- A byte of a list, as a number. -/
def byteAt (l : List UInt8) (i : Nat) : Nat := (l.getD i 0).toNat
theorem byteAt_lt (l : List UInt8) (i : Nat) : byteAt l i < 256 := UInt8.toNat_lt _
theorem byteAt_bl (s : ByteArray) (i : Nat) (h : i < s.size) : byteAt (bl s) i = (s[i]).toNat := by
  have : i < s.data.size := h
  simp [byteAt, bl, List.getD, Array.getElem?_eq_getElem this]
  rfl
/-- Four bytes as a word, the least first. -/
def le4 (l : List UInt8) : Nat := byteAt l 0 + 256 * byteAt l 1 + 65536 * byteAt l 2 + 16777216 * byteAt l 3
theorem le4_lt (l : List UInt8) : le4 l < 4294967296 := by
  have := byteAt_lt l 0; have := byteAt_lt l 1; have := byteAt_lt l 2; have := byteAt_lt l 3
  unfold le4; omega
theorem le4_bits (a b c d : Nat) (ha : a < 256) (hb : b < 256) (hc : c < 256) (hd : d < 256) :
    bits .or .u32 (bits .or .u32 (bits .or .u32 ((a : Int) % 4294967296) ((b : Int) % 4294967296 * 256 % 4294967296)) ((c : Int) % 4294967296 * 65536 % 4294967296)) ((d : Int) % 4294967296 * 16777216 % 4294967296)
      = ((a + 256 * b + 65536 * c + 16777216 * d : Nat) : Int) := by
  rw [show (a : Int) % 4294967296 = ((a : Nat) : Int) from by omega, show (b : Int) % 4294967296 * 256 % 4294967296 = ((b * 256 : Nat) : Int) from by omega,
    show (c : Int) % 4294967296 * 65536 % 4294967296 = ((c * 65536 : Nat) : Int) from by omega, show (d : Int) % 4294967296 * 16777216 % 4294967296 = ((d * 16777216 : Nat) : Int) from by omega]
  rw [u32_or_nat _ _ (by omega) (by omega), Nat.or_comm, nat_join 8 (b * 256) a (by omega) (by omega),
    u32_or_nat _ _ (by omega) (by omega), Nat.or_comm, nat_join 16 (c * 65536) _ (by omega) (by omega),
    u32_or_nat _ _ (by omega) (by omega), Nat.or_comm, nat_join 24 (d * 16777216) _ (by omega) (by omega)]
  congr 1
  omega

/-- An array of words by value, indexed. -/
theorem run_index_words {P : Program} (t e : TypeId) (n : Nat) (l : List Nat) (hl : l.length = n) (h : P.underlying t = some (.array n e)) (he : P.underlying e = some (.int .u32)) (hsz : (P.info? e).map (·.size) = some 1)
    (i : Nat) (hi : i < n) (w : World) : (Instr.index t (.agg (words l)) (.int .i64 (i : Int))).run P w = .ok (.int .u32 ((nth l i : Nat) : Int)) w := by
  obtain ⟨j, hj, hj1⟩ := Option.map_eq_some_iff.1 hsz
  have hw := words_get l i (by omega)
  simp [Instr.index, asIntOf, run_underlying h, hi, sizeOf, typeInfo, hj, hj1, part, isAgg, run_underlying he, hw]

/-- A word of 32 bits, turned to the left. -/
def rotl (x n : Nat) : Nat := (x * 2 ^ n % 4294967296) ||| (x / 2 ^ (32 - n))

theorem rotl_lt (x n : Nat) (hx : x < 4294967296) : rotl x n < 4294967296 := by
  unfold rotl
  refine Nat.or_lt_two_pow (n := 32) (by omega) ?_
  exact Nat.lt_of_le_of_lt (Nat.div_le_self _ _) hx


theorem words_oneCell (l : List Nat) : (words l).all (·.oneCell') = true := by
  simp only [words, Array.all_eq_true']
  intro v hv
  obtain ⟨n, _, rfl⟩ := by simpa [wv] using hv
  rfl
theorem setRow_alloc (w : World) (a b : Array Value) (t : Nat) : (w.alloc (.cells a t)).setRow w.heap.size b = w.alloc (.cells b t) := by
  have h : (w.alloc (.cells a t)).heap = w.heap.push (.cells a t) := rfl
  have h' : (w.alloc (.cells b t)).heap = w.heap.push (.cells b t) := rfl
  have e : ((w.alloc (.cells a t)).setRow w.heap.size b).heap = w.heap.push (.cells b t) := by
    simp only [World.setRow, h]
    apply Array.ext (by simp)
    intro i h1 h2
    simp only [Array.getElem_modify, Array.getElem_push]
    by_cases hi : w.heap.size = i
    · subst hi; simp
    · have : i < w.heap.size := by simp at h2; omega
      simp [hi, this]
  show World.mk _ _ _ _ _ = World.mk _ _ _ _ _
  rw [← h', ← show ((w.alloc (.cells a t)).setRow w.heap.size b).heap = (w.alloc (.cells b t)).heap from e.trans h'.symm]
  rfl

/-- A list of bytes as cells. -/
def bytesV (l : List UInt8) : List Value := l.map fun c => Value.int .u8 (c.toNat : Int)
theorem bytesV_append (a b : List UInt8) : bytesV (a ++ b) = bytesV a ++ bytesV b := by simp [bytesV]
theorem bytesV_length (a : List UInt8) : (bytesV a).length = a.length := by simp [bytesV]
theorem bytesV_oneCell (l : List UInt8) : ∀ u ∈ bytesV l, u.oneCell' = true := by
  intro u hu
  obtain ⟨c, _, rfl⟩ := List.mem_map.1 hu
  rfl
theorem bytesV_get (l : List UInt8) (i : Nat) (h : i < l.length) : (bytesV l)[i]? = some (.int .u8 ((byteAt l i : Nat) : Int)) := by
  simp [bytesV, byteAt, List.getD, h]
/-- Cells that lie in a new block. -/
theorem news_new (w : World) (c : Array Value) (t : Nat) : ∀ (j : Nat) (u : Value), c.toList[j]? = some u → (w.alloc (.cells c t)).cell? ((⟨w.heap.size, 0, none⟩ : Addr).add j) = some u := by
  intro j u hu
  have e : (⟨w.heap.size, 0, none⟩ : Addr).add j = ⟨w.heap.size, j, none⟩ := by unfold Addr.add; split <;> simp_all
  rw [e, cell_of_row _ _ _ c t (0, 0) (heap_alloc_new w _)]
  simpa using hu

theorem strOfNums_bytes (l : List UInt8) : strOfNums (l.map fun c => (c.toNat : Int)) = ofl l := by
  apply bl_inj
  show (strOfNums (l.map fun c => (c.toNat : Int))).data.toList = l
  rw [strOfNums_data, List.map_map]
  conv => rhs; rw [← List.map_id l]
  apply List.map_congr_left
  intro c _
  simp
/-- string(b) of a row of the call's own. -/
theorem run_string_own {P : Program} {w : World} {base src dst e n : Nat} {v : Value} {l : List UInt8} (hs : P.underlying src = some (.slice e)) (he : P.underlying e = some (.int .u8)) (hd : P.underlying dst = some .string)
    (h : w.ownsRow base e 1 v n (bytesV l)) : (convert src dst v).run P w = .ok (.string (ofl l)) w := by
  rcases h.2 with ⟨rfl, rfl⟩ | ⟨g, cap, cur, rfl, _, hg, hn, _, _, hx⟩
  · have hl : l = [] := List.eq_nil_of_length_eq_zero (by simpa [bytesV] using h.1)
    subst hl
    have := run_convert_bytes_nil (P := P) w src e hs he 0 0 dst hd
    exact this
  · have hl : l.length = n := by simpa [bytesV] using h.1
    have hc : ∀ i, i < n → w.cell? ⟨g, 0 + i, none⟩ = some (.int .u8 ((l.map fun c => (c.toNat : Int)).getD i 0)) := by
      intro i hi
      rw [cell_of_row w g (0 + i) cur e (0, 0) hg, Nat.zero_add]
      have h1 : (bytesV l)[i]? = cur[i]? := by
        rw [← hx, List.getElem?_take_of_lt (by omega)]
        simp
      rw [← h1]
      have hi' : i < l.length := by omega
      simp [bytesV, hi', List.getD]
    have := run_convert_bytes_arg (P := P) w src e hs he g 0 n cap _ (by rw [List.length_map]; exact hl) hc dst hd
    rw [this, strOfNums_bytes]

/-- Block g begins with these bytes, and may be written. -/
structure ByteRow (w : World) (g e : Nat) (l : List UInt8) : Prop where
  cell : ∀ i, i < l.length → w.cell? ⟨g, i, none⟩ = some (.int .u8 ((byteAt l i : Nat) : Int))
  free : ∀ i, i < l.length → w.frozen? ⟨g, i, none⟩ = false
theorem ByteRow.drewN {w : World} {g e : Nat} {l : List UInt8} (h : ByteRow w g e l) (d : Nat) : ByteRow (w.drewN d) g e l := ⟨h.cell, h.free⟩
theorem ByteRow.below {w w' : World} {g e : Nat} {l : List UInt8} (h : ByteRow w g e l) (hb : Below (g + 1) w w') : ByteRow w' g e l :=
  ⟨fun i hi => (hb.cell (p := ⟨g, i, none⟩) (Nat.lt_succ_self g)).trans (h.cell i hi), fun i hi => (hb.frozen (p := ⟨g, i, none⟩) (Nat.lt_succ_self g)).trans (h.free i hi)⟩
theorem ByteRow.set {w : World} {g e : Nat} {l : List UInt8} (h : ByteRow w g e l) (p : Nat) (c : UInt8) (hp : p < l.length) : ByteRow (w.setCell ⟨g, p, none⟩ (.int .u8 (c.toNat : Int))) g e (l.set p c) := by
  refine ⟨fun i hi => ?_, fun i hi => ?_⟩
  · rw [List.length_set] at hi
    by_cases hip : p = i
    · subst hip
      rw [World.cell?_setCell_same _ _ _ (h.cell p hp)]
      simp [byteAt, List.getD, hp]
    · rw [World.cell?_setCell_other _ _ _ _ (by intro e; injection e with _ e2; exact hip e2), h.cell i hi]
      simp [byteAt, List.getD, hip]
  · rw [List.length_set] at hi
    rw [World.frozen?_setCell]
    exact h.free i hi
theorem ByteRow.string {P : Program} {w : World} {g src dst e cap : Nat} {l : List UInt8} (h : ByteRow w g e l) (hs : P.underlying src = some (.slice e)) (he : P.underlying e = some (.int .u8)) (hd : P.underlying dst = some .string) :
    (convert src dst (.slice (some ⟨g, 0, none⟩) l.length cap)).run P w = .ok (.string (ofl l)) w := by
  have hc : ∀ i, i < l.length → w.cell? ⟨g, 0 + i, none⟩ = some (.int .u8 ((l.map fun c => (c.toNat : Int)).getD i 0)) := by
    intro i hi
    rw [Nat.zero_add, h.cell i hi]
    simp [byteAt, hi, List.getD]
  rw [run_convert_bytes_arg (P := P) w src e hs he g 0 l.length cap _ (by rw [List.length_map]) hc dst hd, strOfNums_bytes]

theorem bits_xor_u8 (a b : UInt8) : bits .xor .u8 (a.toNat : Int) (b.toNat : Int) = ((a ^^^ b).toNat : Int) := by
  rw [u8_xor_nat _ _ (UInt8.toNat_lt a) (UInt8.toNat_lt b), UInt8.toNat_xor]
theorem byteAt_getElem (l : List UInt8) (i : Nat) (h : i < l.length) : byteAt l i = (l[i]).toNat := by simp [byteAt, List.getD, h]

/-- string([]byte{c}): the row is a new block of its own. -/
theorem run_string_one {P : Program} (w : World) (src dst e : Nat) (n : Nat) (hs : P.underlying src = some (.slice e)) (he : P.underlying e = some (.int .u8)) (hd : P.underlying dst = some .string) :
    (convert src dst (.slice (some ⟨w.heap.size, 0, none⟩) 1 1)).run P (w.alloc (.cells #[.int .u8 (n : Int)] e)) = .ok (.string (ofl [UInt8.ofNat n])) (w.alloc (.cells #[.int .u8 (n : Int)] e)) := by
  have h := run_convert_bytes_arg (P := P) (w.alloc (.cells #[.int .u8 (n : Int)] e)) src e hs he w.heap.size 0 1 1 [(n : Int)] rfl (by
    intro i hi
    obtain rfl : i = 0 := by omega
    rw [cell_of_row _ _ _ _ e (0, 0) (heap_alloc_new w _)]
    rfl) dst hd
  rw [h]
  rfl
theorem ofl_append (a b : List UInt8) : ofl a ++ ofl b = ofl (a ++ b) := by
  apply bl_inj
  show (ofl a ++ ofl b).data.toList = a ++ b
  simp [ofl]

/-- One call behind another one: each leaves what was there ahead of it. -/
theorem below_step {w a b : World} (h : Below w.heap.size w a) (k : Below a.heap.size a b) : Below w.heap.size w b := h.trans (k.mono h.size)

/-- Block g begins with these words, and may be written. -/
structure WRow (w : World) (g : Nat) (l : List Nat) : Prop where
  cell : ∀ i, i < l.length → w.cell? ⟨g, i, none⟩ = some (.int .u32 ((nth l i : Nat) : Int))
  free : ∀ i, i < l.length → w.frozen? ⟨g, i, none⟩ = false
theorem WRow.drewN {w : World} {g : Nat} {l : List Nat} (h : WRow w g l) (d : Nat) : WRow (w.drewN d) g l := ⟨h.cell, h.free⟩
theorem WRow.of_block {w w' : World} {g : Nat} {l : List Nat} (h : WRow w g l) (hb : w'.heap[g]? = w.heap[g]?) : WRow w' g l :=
  ⟨fun i hi => (World.cell?_of_block (w := w) (w' := w') (a := ⟨g, i, none⟩) hb).trans (h.cell i hi), fun i hi => (World.frozen?_of_block (w := w) (w' := w') (a := ⟨g, i, none⟩) hb).trans (h.free i hi)⟩
theorem WRow.set {w : World} {g : Nat} {l : List Nat} (h : WRow w g l) (p v : Nat) (hp : p < l.length) : WRow (w.setCell ⟨g, p, none⟩ (.int .u32 (v : Int))) g (l.set p v) := by
  refine ⟨fun i hi => ?_, fun i hi => ?_⟩
  · rw [List.length_set] at hi
    by_cases hip : p = i
    · subst hip
      rw [World.cell?_setCell_same _ _ _ (h.cell p hp), nth_set_self l p v hp]
    · rw [World.cell?_setCell_other _ _ _ _ (by intro e; injection e with _ e2; exact hip e2), h.cell i hi, nth_set_other l p i v hip]
  · rw [List.length_set] at hi
    rw [World.frozen?_setCell]
    exact h.free i hi
theorem WRow.lt {w : World} {g : Nat} {l : List Nat} (h : WRow w g l) (hl : 0 < l.length) : g < w.heap.size := block_lt_of_cell (h.cell 0 hl)
theorem grownBy_drewN {a w : World} {row : Option Nat} (h : a.grownBy w row) (n : Nat) : a.grownBy (w.drewN n) row := ⟨h.os, h.tape, h.output, h.size, h.block⟩
theorem grownBy_setCell {a w : World} {g : Nat} (h : a.grownBy w (some g)) (i : Nat) (u : Value) : a.grownBy (w.setCell ⟨g, i, none⟩ u) (some g) :=
  ⟨h.os, h.tape, h.output, by simpa [World.setCell] using h.size, fun k hk hne => (Below.heap_setCell w ⟨g, i, none⟩ u k (by rintro rfl; exact hne rfl)).trans (h.block k hk hne)⟩
end Go.Proofs.YtmligbaalbbgiabGreatDoor

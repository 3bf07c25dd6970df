/- Bytes with the mark, the zeros and the length behind; their blocks; the bytes of the words: plain laws. No condition. -/
import Derived.Test.YtnkbkkbpmjemiaaShaBlk
namespace Go.Proofs.Ytnkbkkbpmjemiaa
open Go.RowKit Sha

theorem zeros_le (n : Nat) : zeros n ≤ 63 := by unfold zeros; omega
theorem zeros_stop (n k : Nat) (h : k ≤ zeros n) : (n + 1 + k) % 64 = 56 ↔ k = zeros n := by unfold zeros at *; omega
theorem zeros_fit (n : Nat) : (n + 1 + zeros n + 8) % 64 = 0 := by unfold zeros; omega
def marked (l : List UInt8) (k : Nat) : List UInt8 := l ++ 128 :: List.replicate k 0
theorem marked_length (l : List UInt8) (k : Nat) : (marked l k).length = l.length + 1 + k := by simp [marked]; omega
theorem marked_zero (l : List UInt8) : marked l 0 = l ++ [128] := rfl
theorem marked_succ (l : List UInt8) (k : Nat) : marked l (k + 1) = marked l k ++ [0] := by simp [marked, List.replicate_succ']
theorem lenB_length (n i : Nat) : (lenB n i).length = i := by simp [lenB]
theorem lenB_succ (n i : Nat) : lenB n (i + 1) = lenB n i ++ [UInt8.ofNat (8 * n / 2 ^ (8 * (7 - i)))] := by simp [lenB, List.range_succ]
def long (l : List UInt8) (i : Nat) : List UInt8 := marked l (zeros l.length) ++ lenB l.length i
theorem long_length (l : List UInt8) (i : Nat) : (long l i).length = l.length + 1 + zeros l.length + i := by simp [long, marked_length, lenB_length]
theorem long_zero (l : List UInt8) : long l 0 = marked l (zeros l.length) := by simp [long, lenB]
theorem long_succ (l : List UInt8) (i : Nat) : long l (i + 1) = long l i ++ [UInt8.ofNat (8 * l.length / 2 ^ (8 * (7 - i)))] := by simp [long, lenB_succ]
theorem long_pad (l : List UInt8) : long l 8 = pad l := by simp [long, marked, pad]
/-- How many blocks. -/
def blocks (l : List UInt8) : Nat := (pad l).length / 64
theorem pad_length (l : List UInt8) : (pad l).length = 64 * blocks l := by
  have h := long_length l 8
  rw [long_pad] at h
  have := zeros_fit l.length
  unfold blocks
  omega
theorem pad_small (l : List UInt8) : (pad l).length ≤ l.length + 72 := by
  have h := long_length l 8
  rw [long_pad] at h
  have := zeros_le l.length
  omega
theorem mixes_succ (s : St) (l : List UInt8) (k : Nat) : mixes s l (k + 1) = mix (mixes s l k) ((l.drop (64 * k)).take 64) := by unfold mixes; cases k <;> rfl
theorem piece_length (l : List UInt8) (k : Nat) (h : k < blocks l) : (((pad l).drop (64 * k)).take 64).length = 64 := by
  have := pad_length l
  simp
  omega
theorem BRead.drop {w : World} {A : Option Addr} {l : List UInt8} (h : BRead w A l) (o : Nat) (g off : Nat) (hA : A = some ⟨g, off, none⟩) : BRead w (some ⟨g, off + o, none⟩) (l.drop o) := by
  intro i hi
  have hi' : o + i < l.length := by simp at hi; omega
  obtain ⟨ad, e, hc⟩ := h (o + i) hi'
  rw [hA] at e
  cases e
  refine ⟨_, rfl, ?_⟩
  rw [add_at] at hc ⊢
  rw [show off + o + i = off + (o + i) by omega, hc, getD_eq _ _ _ hi', getD_eq _ _ _ hi, List.getElem_drop]
theorem BRead.grown {w w1 : World} {g off g' : Nat} {l : List UInt8} (h : BRead w (some ⟨g, off, none⟩) l) (hg : w.grownBy w1 (some g')) (hne : g ≠ g') : BRead w1 (some ⟨g, off, none⟩) l := by
  intro i hi
  obtain ⟨ad, e, hc⟩ := h i hi
  cases e
  refine ⟨_, rfl, ?_⟩
  rw [add_at] at hc ⊢
  rw [← hc]
  have hlt : g < w.heap.size := World.block_lt_of_cell? w _ hc
  unfold World.cell?
  rw [hg.block g hlt (by simpa using hne)]

def bblk (l : List UInt8) : Array Value := (l.map byteV).toArray
theorem bblk_size (l : List UInt8) : (bblk l).size = l.length := by simp [bblk]
theorem bblk_one (l : List UInt8) : (bblk l).all (·.oneCell') = true := Array.all_eq_true_iff_forall_mem.2 (fun v hv => by
  simp [bblk] at hv
  obtain ⟨x, _, rfl⟩ := hv
  rfl)
theorem bblk_get (l : List UInt8) (i : Nat) (h : i < l.length) : (bblk l)[i]? = some (byteV (l.getD i 0)) := by
  simp [bblk, h]
theorem bblk_set (l : List UInt8) (i : Nat) (x : UInt8) : (bblk l).setIfInBounds i (byteV x) = bblk (l.set i x) := by
  simp [bblk, List.map_set]
theorem bblk_cell {w : World} {g : Nat} {l : List UInt8} {t : TypeId} (h : w.heap[g]? = some (.cells (bblk l) t)) (i : Nat) (hi : i < l.length) : w.cell? ⟨g, i, none⟩ = some (byteV (l.getD i 0)) := by
  rw [cell_of_row w g i _ t _ h, bblk_get l i hi]
theorem bblk_setCell {w : World} {g : Nat} {l : List UInt8} {t : TypeId} (h : w.heap[g]? = some (.cells (bblk l) t)) (i : Nat) (x : UInt8) : (w.setCell ⟨g, i, none⟩ (byteV x)).heap[g]? = some (.cells (bblk (l.set i x)) t) := by
  rw [heap_setCell_same w g i _ t _ h, bblk_set]

theorem run_store_byte (w : World) (g i : Nat) (b : UInt8) (hc : (w.cell? ⟨g, i, none⟩).isSome = true) (hf : w.frozen? ⟨g, i, none⟩ = false) : (storeVar 5 ⟨g, i, none⟩ (.int .u8 (b.toNat : Int))).run Try.prog w = .ok () (w.setCell ⟨g, i, none⟩ (byteV b)) := by
  have h := run_storeCells_cells (P := Try.prog) g i [byteV b] 0 w (fun j hj => by
      have : j = 0 := by simp at hj; omega
      subst this
      exact hc) (fun j hj => by
      have : j = 0 := by simp at hj; omega
      subst this
      exact hf) (fun v hv => by rw [List.mem_singleton.1 hv]; rfl)
  obtain ⟨i0, hi, hz0, hz1, hz2⟩ := info_parts Try.inf5
  simp only [Nat.add_zero] at h
  simp [storeVar, sizeOf, typeInfo, hi, hz1, Value.cells]
  exact h
/-- A byte of an array is stored. -/
theorem store_byte {ops : Array Oper} {rest : List Oper} {op : Oper} {a : Act} {w : World} {Q : Exit → Act → World → Prop} (hgd : op.guard = none) (x y : Operand) (ho : op.op = .store 5 x y)
    (g i : Nat) (t : TypeId) (l : List UInt8) (b : UInt8) (hx : a.eval x = .pointer (some ⟨g, i, none⟩)) (hy : a.eval y = .int .u8 (b.toNat : Int)) (hh : w.heap[g]? = some (.cells (bblk l) t)) (hi : i < l.length)
    (h : ∀ w', w'.heap[g]? = some (.cells (bblk (l.set i b)) t) → w.grownBy w' (some g) → wpList Try.prog ops Q rest (a.put op.dst undef) w') : wpList Try.prog ops Q (op :: rest) a w :=
  wpList_plain hgd fun _ hK => by
    unfold Oper.wp execOp
    simp only [ho, hx, hy, Instr.storeAt, Instr.sureAddr, Sem.run_bind, Sem.run_pure, Result.andThen_ok, run_store_byte w g i b (by rw [bblk_cell hh i hi]; rfl) (frozen_of_row w g i _ t hh)]
    exact hK _ _ (h _ (bblk_setCell hh i b) (set_grown' _ _ _))

theorem Try.inf27 : (Try.prog.info? 27).map (fun i => (i.zero, i.size, i.bytes)) = some (some (.int .u32 0), 1, 4) := by kernel_rfl
theorem run_store_word (w : World) (g i : Nat) (b : UInt32) (hc : (w.cell? ⟨g, i, none⟩).isSome = true) (hf : w.frozen? ⟨g, i, none⟩ = false) : (storeVar 27 ⟨g, i, none⟩ (.int .u32 (b.toNat : Int))).run Try.prog w = .ok () (w.setCell ⟨g, i, none⟩ (wordV b)) := by
  have h := run_storeCells_cells (P := Try.prog) g i [wordV b] 0 w (fun j hj => by
      have : j = 0 := by simp at hj; omega
      subst this
      exact hc) (fun j hj => by
      have : j = 0 := by simp at hj; omega
      subst this
      exact hf) (fun v hv => by rw [List.mem_singleton.1 hv]; rfl)
  obtain ⟨i0, hi, hz0, hz1, hz2⟩ := info_parts Try.inf27
  simp only [Nat.add_zero] at h
  simp [storeVar, sizeOf, typeInfo, hi, hz1, Value.cells]
  exact h
/-- A word of an array is stored. -/
theorem store_word {ops : Array Oper} {rest : List Oper} {op : Oper} {a : Act} {w : World} {Q : Exit → Act → World → Prop} (hgd : op.guard = none) (x y : Operand) (ho : op.op = .store 27 x y)
    (g i : Nat) (t : TypeId) (l : List UInt32) (b : UInt32) (hx : a.eval x = .pointer (some ⟨g, i, none⟩)) (hy : a.eval y = .int .u32 (b.toNat : Int)) (hh : w.heap[g]? = some (.cells (blk l) t)) (hi : i < l.length)
    (h : ∀ w', w'.heap[g]? = some (.cells (blk (l.set i b)) t) → w.grownBy w' (some g) → wpList Try.prog ops Q rest (a.put op.dst undef) w') : wpList Try.prog ops Q (op :: rest) a w :=
  wpList_plain hgd fun _ hK => by
    unfold Oper.wp execOp
    simp only [ho, hx, hy, Instr.storeAt, Instr.sureAddr, Sem.run_bind, Sem.run_pure, Result.andThen_ok, run_store_word w g i b (by rw [blk_cell hh i hi]; rfl) (frozen_of_row w g i _ t hh)]
    exact hK _ _ (h _ (blk_setCell hh i b) (set_grown' _ _ _))

/-- The bytes of the first k words, zeros behind. -/
def outs (s : List UInt32) (k : Nat) : List UInt8 := (s.take k).flatMap bytes4 ++ List.replicate (32 - 4 * k) 0
theorem flat4_length (s : List UInt32) : (s.flatMap bytes4).length = 4 * s.length := by
  induction s with
  | nil => rfl
  | cons x s ih => simp [bytes4] at ih ⊢; omega
theorem outs_length (s : List UInt32) (k : Nat) (hs : s.length = 8) (hk : k ≤ 8) : (outs s k).length = 32 := by
  simp only [outs, List.length_append, flat4_length, List.length_take, List.length_replicate]; omega
theorem outs_none (s : List UInt32) : outs s 0 = List.replicate 32 0 := rfl
theorem outs_all (s : List UInt32) (hs : s.length = 8) : outs s 8 = s.flatMap bytes4 := by
  simp [outs, List.take_of_length_le (Nat.le_of_eq hs)]
/-- Words of zero behind a list turned to four bytes. -/
theorem four_set (l : List UInt8) (n : Nat) (a b c d : UInt8) : ((((l ++ List.replicate (n + 4) 0).set l.length a).set (l.length + 1) b).set (l.length + 2) c).set (l.length + 3) d = (l ++ [a, b, c, d]) ++ List.replicate n 0 := by
  rw [List.set_append_right _ _ (Nat.le_refl _), List.set_append_right _ _ (by omega), List.set_append_right _ _ (by omega), List.set_append_right _ _ (by omega)]
  simp [List.replicate_succ]
theorem outs_set (s : List UInt32) (k : Nat) (hs : s.length = 8) (hk : k < 8) : ((((outs s k).set (4 * k) ((s.getD k 0) >>> 24).toUInt8).set (4 * k + 1) ((s.getD k 0) >>> 16).toUInt8).set (4 * k + 2) ((s.getD k 0) >>> 8).toUInt8).set (4 * k + 3) (s.getD k 0).toUInt8 = outs s (k + 1) := by
  have hl : ((s.take k).flatMap bytes4).length = 4 * k := by rw [flat4_length, List.length_take]; omega
  have h := four_set ((s.take k).flatMap bytes4) (32 - 4 * (k + 1)) ((s.getD k 0) >>> 24).toUInt8 ((s.getD k 0) >>> 16).toUInt8 ((s.getD k 0) >>> 8).toUInt8 (s.getD k 0).toUInt8
  rw [hl, show 32 - 4 * (k + 1) + 4 = 32 - 4 * k by omega] at h
  unfold outs
  rw [h, take_snoc s k 0 (by omega), List.flatMap_append]
  simp [bytes4]
theorem sum_outs (l : List UInt8) : Sha.sum l = outs (mixes Sha.start (pad l) (blocks l)).list 8 := by
  rw [outs_all _ rfl]; rfl

/-! ### the bytes of a word, as the walk writes them -/
theorem byteW (x n : UInt32) (k : Nat) (p : Int) (hk : n.toNat % 32 = k) (hp : p = ((2 ^ k : Nat) : Int)) : (x.toNat : Int) / p % 256 = ((x >>> n).toUInt8.toNat : Int) := by
  rw [UInt32.toNat_toUInt8, shrW x n k p hk hp]
  omega
/-- The first t bytes of the words, zeros behind. -/
def outN (s : List UInt32) (t : Nat) : List UInt8 := (s.flatMap bytes4).take t ++ List.replicate (32 - t) 0
theorem outN_length (s : List UInt32) (t : Nat) (hs : s.length = 8) (ht : t ≤ 32) : (outN s t).length = 32 := by
  simp only [outN, List.length_append, List.length_take, flat4_length, List.length_replicate]; omega
theorem outN_all (l : List UInt8) : outN (mixes Sha.start (pad l) (blocks l)).list 32 = Sha.sum l := by
  have h : ((mixes Sha.start (pad l) (blocks l)).list.flatMap bytes4).length = 32 := by rw [flat4_length]; rfl
  unfold outN
  rw [List.take_of_length_le (by omega), sum_outs, outs_all _ rfl]
  simp
theorem byte_at (s : List UInt32) (k j : Nat) (hk : k < s.length) (hj : j < 4) : (s.flatMap bytes4).getD (4 * k + j) 0 = ((s.getD k 0) >>> (UInt32.ofNat (24 - 8 * j))).toUInt8 := by
  induction s generalizing k with
  | nil => simp at hk
  | cons x s ih =>
    cases k with
    | zero =>
      match j, hj with
      | 0, _ => rfl
      | 1, _ => rfl
      | 2, _ => rfl
      | 3, _ =>
        show x.toUInt8 = (x >>> 0).toUInt8
        simp
    | succ k =>
      have h := ih k (by simpa using hk)
      have e : (x :: s).getD (k + 1) 0 = s.getD k 0 := rfl
      rw [e, ← h]
      show (bytes4 x ++ s.flatMap bytes4).getD (4 * (k + 1) + j) 0 = _
      rw [show 4 * (k + 1) + j = (4 * k + j) + 1 + 1 + 1 + 1 by omega]
      rfl
theorem outN_set (s : List UInt32) (k j : Nat) (hs : s.length = 8) (hk : k < 8) (hj : j < 4) : (outN s (4 * k + j)).set (4 * k + j) ((s.getD k 0) >>> (UInt32.ofNat (24 - 8 * j))).toUInt8 = outN s (4 * k + j + 1) := by
  have hl : (s.flatMap bytes4).length = 32 := by rw [flat4_length]; omega
  have hl2 : ((s.flatMap bytes4).take (4 * k + j)).length = 4 * k + j := by rw [List.length_take]; omega
  rw [← byte_at s k j (by omega) hj]
  unfold outN
  generalize s.flatMap bytes4 = b at *
  obtain ⟨m, hm⟩ : ∃ m, 32 - (4 * k + j) = m + 1 := ⟨31 - (4 * k + j), by omega⟩
  rw [List.set_append_right _ _ (by omega), hl2, Nat.sub_self, hm, List.replicate_succ, List.set_cons_zero, take_snoc b (4 * k + j) 0 (by omega), show 32 - (4 * k + j + 1) = m by omega]
  simp
theorem byteQ (x : UInt32) (j q : Nat) (hj : j < 4) (hq : (24 : Int) - 8 * (j : Int) = (q : Int)) : (x.toNat : Int) / 2 ^ q % (256 : Int) = ((x >>> (UInt32.ofNat (24 - 8 * j))).toUInt8.toNat : Int) := by
  have h : q = 24 - 8 * j := by omega
  subst h
  match j, hj with
  | 0, _ => exact byteW x 24 24 _ rfl rfl
  | 1, _ => exact byteW x 16 16 _ rfl rfl
  | 2, _ => exact byteW x 8 8 _ rfl rfl
  | 3, _ => exact byteW x 0 0 _ rfl rfl
/-- A word out of eight is read. -/
theorem index_st (s : St) (k : Nat) (h : k < 8) (w : World) : (Instr.index 51 (.agg (blk s.list)) (.int .i64 (k : Int))).run Try.prog w = .ok (wordV (s.list.getD k 0)) w := by
  obtain ⟨a, b, c, d, e, f, g, i⟩ := s
  match k, h with
  | 0, _ => (show _ = _; kernel_rfl)
  | 1, _ => (show _ = _; kernel_rfl)
  | 2, _ => (show _ = _; kernel_rfl)
  | 3, _ => (show _ = _; kernel_rfl)
  | 4, _ => (show _ = _; kernel_rfl)
  | 5, _ => (show _ = _; kernel_rfl)
  | 6, _ => (show _ = _; kernel_rfl)
  | 7, _ => (show _ = _; kernel_rfl)

theorem sum_length (l : List UInt8) : (Sha.sum l).length = 32 := by rw [sum_outs]; exact outs_length _ 8 rfl (Nat.le_refl _)

theorem byteW24 (x : UInt32) : (x.toNat : Int) / (16777216 : Int) % (256 : Int) = ((x >>> 24).toUInt8.toNat : Int) := byteW x 24 24 _ rfl rfl
theorem byteW16 (x : UInt32) : (x.toNat : Int) / (65536 : Int) % (256 : Int) = ((x >>> 16).toUInt8.toNat : Int) := byteW x 16 16 _ rfl rfl
theorem byteW8 (x : UInt32) : (x.toNat : Int) / (256 : Int) % (256 : Int) = ((x >>> 8).toUInt8.toNat : Int) := byteW x 8 8 _ rfl rfl
theorem byteW0 (x : UInt32) : (x.toNat : Int) % 256 = (x.toUInt8.toNat : Int) := by rw [UInt32.toNat_toUInt8]; omega
theorem lenW (n i : Nat) : ((8 * n / 2 ^ (8 * i) : Nat) : Int) % 256 = ((UInt8.ofNat (8 * n / 2 ^ (8 * i))).toNat : Int) := by
  rw [UInt8.toNat_ofNat']
  generalize 8 * n / 2 ^ (8 * i) = q
  omega

end Go.Proofs.Ytnkbkkbpmjemiaa

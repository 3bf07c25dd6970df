/- Arrays of words in memory: a whole block stored, read; the first words and the constants of the hash. No condition but those that each law names. -/
import Derived.Test.YtnkbkkbpmjemiaaShaRot
import Derived.Test.YtnkbkkbpmjemiaaOwn
import Derived.Deep.MidRow
namespace Go.Proofs.Ytnkbkkbpmjemiaa
open Go.RowKit Sha

def wordV (x : UInt32) : Value := .int .u32 (x.toNat : Int)
def blk (l : List UInt32) : Array Value := (l.map wordV).toArray
theorem blk_size (l : List UInt32) : (blk l).size = l.length := by simp [blk]
theorem blk_one (l : List UInt32) : (blk l).all (·.oneCell') = true := Array.all_eq_true_iff_forall_mem.2 (fun v hv => by
  simp [blk] at hv
  obtain ⟨x, _, rfl⟩ := hv
  rfl)
theorem blk_get (l : List UInt32) (i : Nat) (h : i < l.length) : (blk l)[i]? = some (wordV (l.getD i 0)) := by
  simp [blk, h]
theorem blk_set (l : List UInt32) (i : Nat) (x : UInt32) : (blk l).setIfInBounds i (wordV x) = blk (l.set i x) := by
  simp [blk, List.map_set]
theorem blk_cell {w : World} {g : Nat} {l : List UInt32} {t : TypeId} (h : w.heap[g]? = some (.cells (blk l) t)) (i : Nat) (hi : i < l.length) : w.cell? ⟨g, i, none⟩ = some (wordV (l.getD i 0)) := by
  rw [cell_of_row w g i _ t _ h, blk_get l i hi]
theorem blk_frozen {w : World} {g : Nat} {cs : Array Value} {t : TypeId} (h : w.heap[g]? = some (.cells cs t)) (i : Nat) : w.frozen? ⟨g, i, none⟩ = false := frozen_of_row w g i cs t h
theorem blk_setCell {w : World} {g : Nat} {l : List UInt32} {t : TypeId} (h : w.heap[g]? = some (.cells (blk l) t)) (i : Nat) (x : UInt32) : (w.setCell ⟨g, i, none⟩ (wordV x)).heap[g]? = some (.cells (blk (l.set i x)) t) := by
  rw [heap_setCell_same w g i _ t _ h, blk_set]

theorem add_pos (ad : Addr) (i : Nat) (h : 0 < i) : ad.add i = ⟨ad.block, ad.off + i, none⟩ := by
  unfold Addr.add
  rw [if_neg (by omega)]
/-- Many cells of one block turned: the block bears them, the rest stands. -/
theorem setCells_block (g : Nat) (t : TypeId) : ∀ (vs : List Value) (o : Nat) (w : World) (cs : Array Value), w.heap[g]? = some (.cells cs t) → o + vs.length = cs.size →
    (w.setCells g o vs).heap[g]? = some (.cells (cs.toList.take o ++ vs).toArray t) ∧ w.grownBy (w.setCells g o vs) (some g) ∧ (w.setCells g o vs).heap.size = w.heap.size
  | [], o, w, cs, h, hl => by
    refine ⟨?_, World.grownBy.refl _ _, rfl⟩
    simp only [List.length_nil, Nat.add_zero] at hl
    rw [List.append_nil, List.take_of_length_le (by rw [Array.length_toList, hl]; exact Nat.le_refl _)]
    simpa [World.setCells] using h
  | v :: vs, o, w, cs, h, hl => by
    have hlt : o < cs.size := by simp at hl; omega
    have h1 := heap_setCell_same w g o cs t v h
    obtain ⟨a, b, c⟩ := setCells_block g t vs (o + 1) (w.setCell ⟨g, o, none⟩ v) _ h1 (by simp at hl; simp; omega)
    have hs : (w.setCell ⟨g, o, none⟩ v).heap.size = w.heap.size := by simp [World.setCell]
    refine ⟨?_, ⟨b.os, b.tape, b.output, by rw [← hs]; exact b.size, fun k hk hne => ?_⟩, c.trans hs⟩
    · show ((w.setCell ⟨g, o, none⟩ v).setCells g (o + 1) vs).heap[g]? = _
      rw [a]
      congr 2
      apply Array.ext'
      simp only [Array.toList_setIfInBounds]
      rw [List.take_succ_eq_append_getElem (by simpa using hlt), List.take_set_of_le (Nat.le_refl o)]
      simp
    · show ((w.setCell ⟨g, o, none⟩ v).setCells g (o + 1) vs).heap[k]? = _
      rw [b.block k (by rw [hs]; exact hk) hne]
      exact Below.heap_setCell w _ v k (fun e => hne (by rw [e]))
theorem heap_kept {w w' : World} {g g' : Nat} {o : Obj} (h : w.heap[g]? = some o) (hg : w.grownBy w' (some g')) (hne : g ≠ g') : w'.heap[g]? = some o := (hg.block g (heap_lt h) (by simpa using hne)).trans h
theorem grown_trans {w w1 w2 : World} {row : Option Nat} (h : w.grownBy w1 row) (k : w1.grownBy w2 row) : w.grownBy w2 row := ⟨k.os.trans h.os, k.tape.trans h.tape, k.output.trans h.output, Nat.le_trans h.size k.size, fun i hi hne => (k.block i (Nat.lt_of_lt_of_le hi h.size) hne).trans (h.block i hi hne)⟩
theorem grown_drewN {w w1 : World} {row : Option Nat} (h : w.grownBy w1 row) (n : Nat) : w.grownBy (w1.drewN n) row := ⟨h.os, h.tape, h.output, h.size, h.block⟩
theorem below_grown {B : Nat} {w w1 w2 : World} {g : Nat} (h : Below B w w1) (hg : w1.grownBy w2 (some g)) (hB : B ≤ w1.heap.size) (hb : B ≤ g) : Below B w w2 := h.grown hg hB (fun k hk => by cases hk; exact hb)
theorem st_cells {w : World} {p : Nat} {a b c d e f g h : UInt32} {t : TypeId} (hh : w.heap[p]? = some (.cells (blk (St.list ⟨a, b, c, d, e, f, g, h⟩)) t)) :
    w.cell? ⟨p, 0, none⟩ = some (.int .u32 (a.toNat : Int)) ∧ w.cell? ⟨p, 1, none⟩ = some (.int .u32 (b.toNat : Int)) ∧ w.cell? ⟨p, 2, none⟩ = some (.int .u32 (c.toNat : Int)) ∧ w.cell? ⟨p, 3, none⟩ = some (.int .u32 (d.toNat : Int)) ∧
    w.cell? ⟨p, 4, none⟩ = some (.int .u32 (e.toNat : Int)) ∧ w.cell? ⟨p, 5, none⟩ = some (.int .u32 (f.toNat : Int)) ∧ w.cell? ⟨p, 6, none⟩ = some (.int .u32 (g.toNat : Int)) ∧ w.cell? ⟨p, 7, none⟩ = some (.int .u32 (h.toNat : Int)) :=
  ⟨blk_cell hh 0 (show 0 < 8 by decide), blk_cell hh 1 (show 1 < 8 by decide), blk_cell hh 2 (show 2 < 8 by decide), blk_cell hh 3 (show 3 < 8 by decide), blk_cell hh 4 (show 4 < 8 by decide), blk_cell hh 5 (show 5 < 8 by decide), blk_cell hh 6 (show 6 < 8 by decide), blk_cell hh 7 (show 7 < 8 by decide)⟩
theorem st_free {w : World} {p : Nat} {cs : Array Value} {t : TypeId} (hh : w.heap[p]? = some (.cells cs t)) :
    w.frozen? ⟨p, 0, none⟩ = false ∧ w.frozen? ⟨p, 1, none⟩ = false ∧ w.frozen? ⟨p, 2, none⟩ = false ∧ w.frozen? ⟨p, 3, none⟩ = false ∧ w.frozen? ⟨p, 4, none⟩ = false ∧ w.frozen? ⟨p, 5, none⟩ = false ∧ w.frozen? ⟨p, 6, none⟩ = false ∧ w.frozen? ⟨p, 7, none⟩ = false :=
  ⟨blk_frozen hh 0, blk_frozen hh 1, blk_frozen hh 2, blk_frozen hh 3, blk_frozen hh 4, blk_frozen hh 5, blk_frozen hh 6, blk_frozen hh 7⟩
theorem set_grown' (w : World) (a : Addr) (u : Value) : w.grownBy (w.setCell a u) (some a.block) :=
  ⟨rfl, rfl, rfl, by simp [World.setCell], fun k _ hk => Below.heap_setCell w a u k (fun e => hk (by rw [e]))⟩
/-- A whole block is stored. -/
theorem store_block {ops : Array Oper} {rest : List Oper} {op : Oper} {a : Act} {w : World} {Q : Exit → Act → World → Prop} (hgd : op.guard = none) (ty : TypeId) (x y : Operand) (ho : op.op = .store ty x y)
    (g : Nat) (t : TypeId) (cs cells : Array Value) (hx : a.eval x = .pointer (some ⟨g, 0, none⟩)) (hy : a.eval y = .agg cells)
    (hh : w.heap[g]? = some (.cells cs t)) (hs : cells.size = cs.size) (hi : (Try.prog.info? ty).map (·.size) = some cells.size) (h1 : cells.all (·.oneCell') = true)
    (h : ∀ w', w'.heap[g]? = some (.cells cells t) → w.grownBy w' (some g) → w'.heap.size = w.heap.size → wpList Try.prog ops Q rest (a.put op.dst undef) w') : wpList Try.prog ops Q (op :: rest) a w := by
  refine wpList_store_mid hgd ty x y ho g 0 cells hx hy ?_ hi h1 ?_
  · intro j hj
    rw [Nat.zero_add, cell_of_row w g j cs t _ hh]
    refine ⟨?_, frozen_of_row w g j cs t hh⟩
    rw [Array.getElem?_eq_getElem (by omega)]
    rfl
  · obtain ⟨p, q, r⟩ := setCells_block g t cells.toList 0 w cs hh (by simp; omega)
    refine h _ ?_ q r
    rw [p]
    simp

set_option maxHeartbeats 400000 in
theorem start_any (w : World) : Calls Try.prog 27 #[] w fun e w' => e = .returned (.agg (blk Sha.start.list)) ∧ Below w.heap.size w w' := by
  go_enter Try.func27, Try.ntmps27
  go_wp2
  exact bodyPost_ret (v := .agg (blk Sha.start.list)) (by simp [results, Try.results27, go_sem]; rfl) rfl ⟨rfl, (Below.refl _ _).alloc (Nat.le_refl _) _⟩

set_option maxRecDepth 100000 in
set_option maxHeartbeats 400000 in
theorem constants_any (w : World) : Calls Try.prog 31 #[] w fun e w' => e = .returned (.agg (blk K)) ∧ Below w.heap.size w w' := by
  go_enter Try.func31, Try.ntmps31
  go_wp2_with (refine store_block rfl 56 (.tmp 0) (.tmp 1) rfl w.heap.size 56 (blk (List.replicate 64 0)) (blk K) rfl rfl (alloc_at _ _) rfl (by kernel_rfl) (blk_one K) ?_; intro w2 h2 hg2 hs2)
  exact bodyPost_ret (v := .agg (blk K)) (results_cell_row Try.results31 _ _ w.heap.size 56 (blk K) (0, 0) _ rfl h2 Try.underlying56 rfl (by kernel_rfl)) rfl
    ⟨rfl, ((Below.refl _ _).alloc (Nat.le_refl _) _).grown hg2 (by simp) (fun k hk => by cases hk; exact Nat.le_refl _)⟩

end Go.Proofs.Ytnkbkkbpmjemiaa

/- What sha.mix does: a block of 64 bytes is mixed into the eight words. Conditions: the words lie in one block, the bytes are read. -/
import Derived.Test.YtnkbkkbpmjemiaaShaBlk
import Derived.Deep.QuietTactic
import Derived.BigQuiet
import Derived.StillTailTactics
import Derived.RegionTactic
import Derived.BigRegion
import Derived.Laws.CopyOwn
namespace Go.Proofs.Ytnkbkkbpmjemiaa
open Go.RowKit Sha

theorem seven_eight {a b c d e f g h : UInt32} (j : Nat) (v : Value) (hj : ([wordV a, wordV b, wordV c, wordV d, wordV e, wordV f, wordV g] : List Value)[j]? = some v) : (blk (St.list ⟨a, b, c, d, e, f, g, h⟩))[j]? = some v := by
  have e : blk (St.list ⟨a, b, c, d, e, f, g, h⟩) = ([wordV a, wordV b, wordV c, wordV d, wordV e, wordV f, wordV g] ++ [wordV h]).toArray := rfl
  rw [e, List.getElem?_toArray, List.getElem?_append_left (List.getElem?_eq_some_iff.1 hj).1]
  exact hj

set_option maxRecDepth 100000 in
set_option maxHeartbeats 4000000 in
theorem mix_any (gh : Nat) (s : St) (ad : Addr) (c : Nat) (m : List UInt8) (w : World) (hm : m.length = 64) (hh : w.heap[gh]? = some (.cells (blk s.list) 51)) (hr : BRead w (some ad) m) :
    Calls Try.prog 28 #[.pointer (some ⟨gh, 0, none⟩), .slice (some ad) 64 c] w fun e w' => e = .returned (.tuple #[]) ∧ w.grownBy w' (some gh) ∧ w'.heap[gh]? = some (.cells (blk (Sha.mix s m).list) 51) := by
  have HM := Lib.hid hm
  have HH := Lib.hid hh
  have HR := Lib.hid hr
  clear hm hh hr
  go_enter Try.func28, Try.ntmps28
  go_wp2
  go_loopw [17] (fun i wr => ∃ k : Nat, k ≤ 16 ∧ i = .int .i64 k ∧ Hid (wr.heap[w.heap.size]? = some (.cells (blk (firsts m k ++ List.replicate (64 - k) 0)) 56)) ∧ Hid (Below w.heap.size w wr) ∧ Hid (wr.heap.size = w.heap.size + 1)) (fun i _ => 16 - (intOf i).toNat)
  case atStart => exact ⟨0, by omega, rfl, Lib.hid (alloc_at _ _), Lib.hid ((Below.refl _ _).alloc (Nat.le_refl _) _), Lib.hid (alloc_size _ _)⟩
  case round =>
    obtain ⟨k, hk, rfl, HW, HB, HZ⟩ := hrel
    by_cases hlt : k < 16
    · have hb := HR.out.below HB.out
      have b0 := hb (4 * k) (by have := HM.out; omega)
      have b1 := hb (4 * k + 1) (by have := HM.out; omega)
      have b2 := hb (4 * k + 2) (by have := HM.out; omega)
      have b3 := hb (4 * k + 3) (by have := HM.out; omega)
      obtain ⟨_, e0, c0⟩ := b0; cases e0
      obtain ⟨_, e1, c1⟩ := b1; cases e1
      rw [add_pos ad _ (by omega)] at c1
      obtain ⟨_, e2, c2⟩ := b2; cases e2
      rw [add_pos ad _ (by omega)] at c2
      obtain ⟨_, e3, c3⟩ := b3; cases e3
      rw [add_pos ad _ (by omega)] at c3
      obtain ⟨x0, hx0⟩ : ∃ x, x = m.getD (4 * k) 0 := ⟨_, rfl⟩
      rw [← hx0] at c0
      obtain ⟨x1, hx1⟩ : ∃ x, x = m.getD (4 * k + 1) 0 := ⟨_, rfl⟩
      rw [← hx1] at c1
      obtain ⟨x2, hx2⟩ : ∃ x, x = m.getD (4 * k + 2) 0 := ⟨_, rfl⟩
      rw [← hx2] at c2
      obtain ⟨x3, hx3⟩ : ∃ x, x = m.getD (4 * k + 3) 0 := ⟨_, rfl⟩
      rw [← hx3] at c3
      have HF : Hid (firsts m (k + 1) = firsts m k ++ [word x0 x1 x2 x3]) := Lib.hid (by rw [firsts_succ, hx0, hx1, hx2, hx3])
      clear hx0 hx1 hx2 hx3
      have hcell : wr.cell? ⟨w.heap.size, k, none⟩ = some (wordV ((firsts m k ++ List.replicate (64 - k) 0).getD k 0)) := blk_cell HW.out k (by simp [firsts]; omega)
      have hfr := blk_frozen HW.out k
      generalize wordV ((firsts m k ++ List.replicate (64 - k) 0).getD k 0) = old at hcell
      have j0 : (0 : Int) ≤ (k : Int) := by omega
      have j1 : (k : Int) < 16 := by omega
      have j2 : (k : Int) < 64 := by omega
      have w0 : IntKind.i64.wrap (4 * (k : Int)) = 4 * (k : Int) := IntWalk.i64_in _ (by omega)
      have w1 : IntKind.i64.wrap (4 * (k : Int) + 1) = 4 * (k : Int) + 1 := IntWalk.i64_in _ (by omega)
      have w2 : IntKind.i64.wrap (4 * (k : Int) + 2) = 4 * (k : Int) + 2 := IntWalk.i64_in _ (by omega)
      have w3 : IntKind.i64.wrap (4 * (k : Int) + 3) = 4 * (k : Int) + 3 := IntWalk.i64_in _ (by omega)
      have d0 : (0 : Int) ≤ 4 * (k : Int) ∧ 4 * (k : Int) < 64 := by omega
      have d1 : (0 : Int) ≤ 4 * (k : Int) + 1 ∧ 4 * (k : Int) + 1 < 64 := by omega
      have d2 : (0 : Int) ≤ 4 * (k : Int) + 2 ∧ 4 * (k : Int) + 2 < 64 := by omega
      have d3 : (0 : Int) ≤ 4 * (k : Int) + 3 ∧ 4 * (k : Int) + 3 < 64 := by omega
      obtain ⟨d01, d02⟩ := d0
      obtain ⟨d11, d12⟩ := d1
      obtain ⟨d21, d22⟩ := d2
      obtain ⟨d31, d32⟩ := d3
      have q0 : (4 * (k : Int)).toNat = 4 * k := by omega
      have q1 : (4 * (k : Int) + 1).toNat = 4 * k + 1 := by omega
      have q2 : (4 * (k : Int) + 2).toNat = 4 * k + 2 := by omega
      have q3 : (4 * (k : Int) + 3).toNat = 4 * k + 3 := by omega
      clear hb
      go_wp2
      go_still_tail 35, (by kernel_rfl)
      change wpList _ _ _ _ _ wr.drew
      rw [wordE]
      go_wp2
      go_roundw
      case rel =>
        refine ⟨k + 1, by omega, by go_num, Lib.hid ?_, Lib.hid ((HB.out.drew).setCell (Nat.le_refl _) _), Lib.hid (by simp [World.setCell]; exact HZ.out)⟩
        have e := blk_setCell (w := wr.drew) HW.out k (word x0 x1 x2 x3)
        have e2 := fill_set (firsts m k) (64 - k) (word x0 x1 x2 x3) (by omega)
        rw [firsts_length] at e2
        rw [e2, ← HF.out] at e
        exact e
      case measure => simp [intOf]; omega
    · obtain rfl : k = 16 := by omega
      clear hlt hk
      go_wp2
      rw [show ((16 : Nat) : Int) = (16 : Int) from rfl]
      go_loopw [6] (fun i wr => ∃ k : Nat, 16 ≤ k ∧ k ≤ 64 ∧ i = .int .i64 k ∧ Hid (wr.heap[w.heap.size]? = some (.cells (blk (sched m (k - 16) ++ List.replicate (64 - k) 0)) 56)) ∧ Hid (Below w.heap.size w wr) ∧ Hid (wr.heap.size = w.heap.size + 1)) (fun i _ => 64 - (intOf i).toNat)
      case atStart => exact ⟨16, by omega, by omega, rfl, HW, HB, HZ⟩
      case round =>
        clear HW HB HZ
        obtain ⟨k, hk16, hk, rfl, HW, HB, HZ⟩ := hrel
        by_cases hlt : k < 64
        · have hL := sched_length m (k - 16)
          have c16 : wr.cell? ⟨w.heap.size, k - 16, none⟩ = some (wordV ((sched m (k - 16)).getD (k - 16) 0)) := by rw [blk_cell HW.out _ (by simp; omega), fill_get _ _ _ (by omega)]
          have c15 : wr.cell? ⟨w.heap.size, k - 15, none⟩ = some (wordV ((sched m (k - 16)).getD (k - 15) 0)) := by rw [blk_cell HW.out _ (by simp; omega), fill_get _ _ _ (by omega)]
          have c7 : wr.cell? ⟨w.heap.size, k - 7, none⟩ = some (wordV ((sched m (k - 16)).getD (k - 7) 0)) := by rw [blk_cell HW.out _ (by simp; omega), fill_get _ _ _ (by omega)]
          have c2 : wr.cell? ⟨w.heap.size, k - 2, none⟩ = some (wordV ((sched m (k - 16)).getD (k - 2) 0)) := by rw [blk_cell HW.out _ (by simp; omega), fill_get _ _ _ (by omega)]
          obtain ⟨x16, h16⟩ : ∃ x, x = (sched m (k - 16)).getD (k - 16) 0 := ⟨_, rfl⟩
          obtain ⟨x15, h15⟩ : ∃ x, x = (sched m (k - 16)).getD (k - 15) 0 := ⟨_, rfl⟩
          obtain ⟨x7, h7⟩ : ∃ x, x = (sched m (k - 16)).getD (k - 7) 0 := ⟨_, rfl⟩
          obtain ⟨x2, h2⟩ : ∃ x, x = (sched m (k - 16)).getD (k - 2) 0 := ⟨_, rfl⟩
          rw [← h16] at c16
          rw [← h15] at c15
          rw [← h7] at c7
          rw [← h2] at c2
          have HN : Hid (sched m (k + 1 - 16) = sched m (k - 16) ++ [nextW x16 x15 x7 x2]) := Lib.hid (by
            rw [show k + 1 - 16 = (k - 16) + 1 by omega, sched, next, hL, h16, h15, h7, h2, show 16 + (k - 16) = k by omega])
          have HL := Lib.hid hL
          clear h16 h15 h7 h2 hL
          unfold wordV at c16 c15 c7 c2
          have hcell : wr.cell? ⟨w.heap.size, k, none⟩ = some (wordV ((sched m (k - 16) ++ List.replicate (64 - k) 0).getD k 0)) := blk_cell HW.out k (by simp [HL.out]; omega)
          have hfr := blk_frozen HW.out k
          generalize wordV ((sched m (k - 16) ++ List.replicate (64 - k) 0).getD k 0) = old at hcell
          have j0 : (0 : Int) ≤ (k : Int) := by omega
          have j1 : (k : Int) < 64 := by omega
          have i16 : (16 : Int) ≤ (k : Int) := by omega
          have i15 : (15 : Int) ≤ (k : Int) := by omega
          have i7 : (7 : Int) ≤ (k : Int) := by omega
          have i2 : (2 : Int) ≤ (k : Int) := by omega
          have w16 : IntKind.i64.wrap ((k : Int) - 16) = (k : Int) - 16 := IntWalk.i64_in _ (by omega)
          have w15 : IntKind.i64.wrap ((k : Int) - 15) = (k : Int) - 15 := IntWalk.i64_in _ (by omega)
          have w7 : IntKind.i64.wrap ((k : Int) - 7) = (k : Int) - 7 := IntWalk.i64_in _ (by omega)
          have w2 : IntKind.i64.wrap ((k : Int) - 2) = (k : Int) - 2 := IntWalk.i64_in _ (by omega)
          have d16 : (k : Int) - 16 < 64 := by omega
          have d15 : (k : Int) - 15 < 64 := by omega
          have d7 : (k : Int) - 7 < 64 := by omega
          have d2 : (k : Int) - 2 < 64 := by omega
          have q16 : ((k : Int) - 16).toNat = k - 16 := by omega
          have q15 : ((k : Int) - 15).toNat = k - 15 := by omega
          have q7 : ((k : Int) - 7).toNat = k - 7 := by omega
          have q2 : ((k : Int) - 2).toNat = k - 2 := by omega
          go_wp2
          go_quiet (fail)
          go_wp2
          obtain ⟨wq, hwq⟩ : ∃ wq, wq = wr.drewN nq := ⟨_, rfl⟩
          have c16' : wq.cell? ⟨w.heap.size, k - 16, none⟩ = some (.int .u32 (x16.toNat : Int)) := by rw [hwq]; exact c16
          have c7' : wq.cell? ⟨w.heap.size, k - 7, none⟩ = some (.int .u32 (x7.toNat : Int)) := by rw [hwq]; exact c7
          have hcell' : wq.cell? ⟨w.heap.size, k, none⟩ = some old := by rw [hwq]; exact hcell
          have hfr' : wq.frozen? ⟨w.heap.size, k, none⟩ = false := by rw [hwq]; exact hfr
          have HW' : Hid (wq.heap[w.heap.size]? = some (.cells (blk (sched m (k - 16) ++ List.replicate (64 - k) 0)) 56)) := Lib.hid (by rw [hwq]; exact HW.out)
          have HB' : Hid (Below w.heap.size w wq) := Lib.hid (by rw [hwq]; exact ⟨HB.out.os, HB.out.tape, HB.out.output, HB.out.size, HB.out.block⟩)
          have HZ' : Hid (wq.heap.size = w.heap.size + 1) := Lib.hid (by rw [hwq]; exact HZ.out)
          rw [← hwq]
          clear c16 c7 c15 c2 hcell hfr HW HB HZ hwq
          refine wp_region_still_tail 29 (by kernel_rfl) (by kernel_rfl) ?_
          simp only [List.take_succ_cons, List.take_zero, List.drop_succ_cons, List.drop_zero]
          repeat still_step
          still_call (still_of (right_7 x15 _))
          repeat still_step
          still_call (still_of (right_18 x15 _))
          repeat still_step
          still_call (still_of (right_17 x2 _))
          repeat still_step
          still_call (still_of (right_19 x2 _))
          repeat still_step
          refine wpStill_nil ?_
          change wpList _ _ _ _ _ wq.drew
          rw [nextE]
          go_wp2
          go_roundw
          case rel =>
            refine ⟨k + 1, by omega, by omega, by go_num, Lib.hid ?_, Lib.hid ((HB'.out.drew).setCell (Nat.le_refl _) _), Lib.hid (by simp [World.setCell]; exact HZ'.out)⟩
            have e := blk_setCell (w := wq.drew) HW'.out k (nextW x16 x15 x7 x2)
            have e2 := fill_set (sched m (k - 16)) (64 - k) (nextW x16 x15 x7 x2) (by omega)
            rw [HL.out, show 16 + (k - 16) = k by omega] at e2
            rw [e2, ← HN.out] at e
            exact e
          case measure => simp [intOf]; omega
        · obtain rfl : k = 64 := by omega
          clear hlt hk hk16
          go_wp2_with fail
          rw [show ((64 : Nat) : Int) = (64 : Int) from rfl]
          have hgl : gh < w.heap.size := heap_lt HH.out
          have hz := HZ.out
          refine (constants_any _).mono ?_
          rintro e w2 ⟨rfl, hb2⟩
          have hz2 := hb2.size
          have HB2 : Hid (Below w.heap.size w w2) := Lib.hid (HB.out.trans (hb2.mono (by omega)))
          have HW2 : Hid (w2.heap[w.heap.size]? = some (.cells (blk (sched m 48)) 56)) := Lib.hid (by
            rw [hb2.block _ (by omega)]
            have e := HW.out
            simp only [Nat.sub_self, List.replicate_zero, List.append_nil] at e
            exact e)
          clear hb2 HW HB HZ
          have HLT : Hid (w.heap.size < w2.heap.size) := Lib.hid (by omega)
          clear hz hz2
          go_wp2_with (first
            | (refine store_block rfl 56 (.tmp 9) (.tmp 97) rfl w2.heap.size 56 (blk (List.replicate 64 0)) (blk K) rfl rfl (alloc_at _ _) rfl (by kernel_rfl) (blk_one K) ?_; intro w3 h3 hg3 hs3; rw [alloc_size] at hs3; have HS3 := Lib.hid hs3; have HH3 := Lib.hid (heap_kept (alloc_under ((HB2.out.block gh hgl).trans HH.out) _) hg3 (Nat.ne_of_lt (Nat.lt_trans hgl HLT.out))); have HW3 := Lib.hid (heap_kept (alloc_under HW2.out _) hg3 (Nat.ne_of_lt HLT.out)); have HB3 := Lib.hid (below_grown (HB2.out.alloc (Nat.le_of_lt HLT.out) _) hg3 (by rw [alloc_size]; exact Nat.le_succ_of_le (Nat.le_of_lt HLT.out)) (Nat.le_of_lt HLT.out)); have HK3 := Lib.hid h3; clear h3 hg3 hs3)
            | (refine wpList_load_row rfl 51 (.tmp 99) rfl gh rfl 51 (blk s.list) (0, 0) _ HH3.out Try.underlying51 rfl (by kernel_rfl) ?_)
            | (refine store_block rfl 51 (.tmp 10) (.tmp 100) rfl w3.heap.size 51 (blk (List.replicate 8 0)) (blk s.list) rfl rfl (alloc_at _ _) rfl (by kernel_rfl) (blk_one _) ?_; intro w4 h4 hg4 hs4; rw [alloc_size] at hs4; have HS4 := Lib.hid hs4; have HG4 := Lib.hid hg4; have HT4 := Lib.hid h4; clear h4 hg4 hs4))
          go_loopw [101] (fun i wr => ∃ k : Nat, k ≤ 64 ∧ i = .int .i64 k ∧ Hid (wr.heap[w3.heap.size]? = some (.cells (blk (rnds (sched m 48) s k).list) 51)) ∧ Hid (Below w3.heap.size w4 wr)) (fun i _ => 64 - (intOf i).toNat)
          case atStart => exact ⟨0, by omega, rfl, HT4, Lib.hid (Below.refl _ _)⟩
          case round =>
            obtain ⟨k, hk, rfl, HT, HG⟩ := hrel
            by_cases hlt : k < 64
            · have hk4 := blk_cell ((HG.out.block _ (by have := HS3.out; omega)).trans (heap_kept (alloc_under HK3.out _) HG4.out (by have := HS3.out; omega))) k (by simp [K]; omega)
              have hw4 := blk_cell ((HG.out.block _ (by have := HS3.out; have := HLT.out; omega)).trans (heap_kept (alloc_under HW3.out _) HG4.out (by have := HS3.out; have := HLT.out; omega))) k (by rw [sched_length]; omega)
              have HR1 : Hid (rnds (sched m 48) s (k + 1) = rnd (rnds (sched m 48) s k) (K.getD k 0) ((sched m 48).getD k 0)) := Lib.hid rfl
              generalize K.getD k 0 = kk at hk4 HR1
              generalize (sched m 48).getD k 0 = ww at hw4 HR1
              unfold wordV at hk4 hw4
              obtain ⟨t, ht⟩ : ∃ t, t = rnds (sched m 48) s k := ⟨_, rfl⟩
              rw [← ht] at HT HR1
              clear ht
              obtain ⟨a, b, c', d, e, f, g, x8⟩ := t
              obtain ⟨c0, c1, c2, c3, c4, c5, c6, c7⟩ := st_cells HT.out
              have j0 : (0 : Int) ≤ (k : Int) := by omega
              have j1 : (k : Int) < 64 := by omega
              go_wp2
              go_quiet (fail)
              rename Nat => n1
              go_wp2
              go_quiet (first | (go_at_call 30; with_reducible exact quiet_add_left (right_6 e _)) | (go_at_call 30; with_reducible exact quiet_add_left (right_11 e _)) | (go_at_call 30; with_reducible exact quiet_add_left (right_25 e _)))
              rename Nat => n2
              rw [oneQ]
              go_wp2
              go_quiet (first | (go_at_call 30; with_reducible exact quiet_add_left (right_2 a _)) | (go_at_call 30; with_reducible exact quiet_add_left (right_13 a _)) | (go_at_call 30; with_reducible exact quiet_add_left (right_22 a _)))
              rename Nat => n3
              rw [twoQ]
              go_wp2
              obtain ⟨wq, hwq⟩ : ∃ x, x = (wr.drewN (n1 + n2)).drewN n3 := ⟨_, rfl⟩
              rw [← hwq]
              have HTq : Hid (wq.heap[w3.heap.size]? = some (.cells (blk (St.list ⟨a, b, c', d, e, f, g, x8⟩)) 51)) := Lib.hid (by rw [hwq]; exact HT.out)
              have HGq : Hid (Below w3.heap.size w4 wq.drew) := Lib.hid (by rw [hwq]; exact ⟨HG.out.os, HG.out.tape, HG.out.output, HG.out.size, HG.out.block⟩)
              clear hwq c0 c1 c2 c3 c4 c5 c6 c7 hk4 hw4 HT HG
              generalize hO : oneW e f g x8 kk ww = o1
              generalize hT : twoW a b c' = o2
              have HO := Lib.hid hO
              have HT2 := Lib.hid hT
              clear hO hT
              have HCS : Hid (∀ j v, ([wordV a, wordV b, wordV c', wordV d, wordV e, wordV f, wordV g] : List Value)[j]? = some v → wq.drew.cell? ((⟨w3.heap.size, 0, none⟩ : Addr).add j) = some v) := Lib.hid (fun j v hj => by
                rw [add_at, Nat.zero_add, cell_of_row wq.drew _ j _ 51 (0, 0) HTq.out]
                exact seven_eight j v hj)
              go_still_tail 2, (by kernel_rfl)
              change wpList _ _ _ _ _ wq.drew
              refine wpList_copy_splice rfl (.tmp 162) (.tmp 163) 59 59 rfl 27 Try.underlying59 (by kernel_rfl) (some ⟨w3.heap.size, 1, none⟩) (some ⟨w3.heap.size, 0, none⟩) 7 7 7 8 rfl rfl w3.heap.size 1 (List.map wordV (St.list ⟨a, b, c', d, e, f, g, x8⟩)) 51 HTq.out [wordV a, wordV b, wordV c', wordV d, wordV e, wordV f, wordV g] rfl (fun _ => ⟨rfl, _, rfl, HCS.out⟩) (by simp [St.list]) (by simp [wordV, Value.oneCell']) w3.heap.size w4 HGq.out (Nat.le_refl _) ?_
              intro w5 hT5 hb5
              have HT5 : Hid (w5.heap[w3.heap.size]? = some (.cells (blk (St.list ⟨a, a, b, c', d, e, f, g⟩)) 51)) := hT5
              have HB5 := Lib.hid hb5
              clear hb5 hT5 HCS HTq HGq
              obtain ⟨c0, c1, c2, c3, c4, c5, c6, c7⟩ := st_cells HT5.out
              obtain ⟨f0, f1, f2, f3, f4, f5, f6, f7⟩ := st_free HT5.out
              obtain ⟨p0, hp0⟩ : ∃ x, x = o1 + o2 := ⟨_, rfl⟩
              obtain ⟨p4, hp4⟩ : ∃ x, x = d + o1 := ⟨_, rfl⟩
              have s0 : ((o1.toNat : Int) + (o2.toNat : Int)) % 4294967296 = (p0.toNat : Int) := by rw [hp0]; exact addW _ _
              have s0' : IntKind.u32.wrap ((o1.toNat : Int) + (o2.toNat : Int)) = (p0.toNat : Int) := by rw [hp0]; exact addW' _ _
              have s4 : ((d.toNat : Int) + (o1.toNat : Int)) % 4294967296 = (p4.toNat : Int) := by rw [hp4]; exact addW _ _
              have s4' : IntKind.u32.wrap ((d.toNat : Int) + (o1.toNat : Int)) = (p4.toNat : Int) := by rw [hp4]; exact addW' _ _
              have HP0 := Lib.hid hp0
              have HP4 := Lib.hid hp4
              clear hp0 hp4
              go_wp2
              go_roundw
              case rel =>
                refine ⟨k + 1, by omega, by go_num, Lib.hid ?_, Lib.hid ((HB5.out.setCell (Nat.le_refl _) _).setCell (Nat.le_refl _) _)⟩
                have h1 := blk_setCell (blk_setCell HT5.out 0 p0) 4 p4
                rw [HR1.out]
                have e : rnd ⟨a, b, c', d, e, f, g, x8⟩ kk ww = ⟨p0, a, b, c', p4, e, f, g⟩ := by
                  show (⟨_, _, _, _, _, _, _, _⟩ : St) = _
                  rw [HP0.out, HP4.out, ← HO.out, ← HT2.out]
                  rfl
                rw [e]
                exact h1
              case measure => simp [intOf]; omega
            · obtain rfl : k = 64 := by omega
              clear hlt hk
              go_wp2
              rw [show ((64 : Nat) : Int) = (64 : Int) from rfl]
              have hgl10 : gh < w3.heap.size := by have := HS3.out; have := HLT.out; omega
              have HHr : Hid (wr.heap[gh]? = some (.cells (blk s.list) 51)) := Lib.hid ((HG.out.block _ hgl10).trans (heap_kept (alloc_under HH3.out _) HG4.out (Nat.ne_of_lt hgl10)))
              have HRr : Hid (w.grownBy wr (some gh)) := Lib.hid ⟨HG.out.os.trans (HG4.out.os.trans HB3.out.os), HG.out.tape.trans (HG4.out.tape.trans HB3.out.tape), HG.out.output.trans (HG4.out.output.trans HB3.out.output),
                by have h1 := HB3.out.size; have h2 := HG4.out.size; have h3 := HG.out.size; rw [alloc_size] at h2; omega,
                fun b hb _ => (HG.out.block b (by have := HS3.out; have := HLT.out; omega)).trans ((HG4.out.block b (by rw [alloc_size]; have := HB3.out.size; omega) (by simp; have := HS3.out; have := HLT.out; omega)).trans ((Below.heap_alloc w3 _ b (by have := HB3.out.size; omega)).trans (HB3.out.block b hb)))⟩
              clear HG
              obtain ⟨t, ht⟩ : ∃ t, t = rnds (sched m 48) s 64 := ⟨_, rfl⟩
              rw [← ht] at HT
              have HTT := Lib.hid ht
              clear ht
              go_loopw [175] (fun i wx => ∃ k : Nat, k ≤ 8 ∧ i = .int .i64 k ∧ Hid (wx.heap[gh]? = some (.cells (blk (addTo s.list t.list k)) 51)) ∧ Hid (wr.grownBy wx (some gh))) (fun i _ => 8 - (intOf i).toNat)
              case atStart => exact ⟨0, by omega, rfl, Lib.hid (by rw [addTo_none]; exact HHr.out), Lib.hid (World.grownBy.refl _ _)⟩
              case round =>
                obtain ⟨k, hk, rfl, HX, HY⟩ := hrel
                by_cases hlt : k < 8
                · have cx := blk_cell HX.out k (by rw [addTo_length]; exact hlt)
                  rw [addTo_get _ _ _ _ hlt, if_neg (Nat.lt_irrefl k)] at cx
                  have cy := blk_cell (heap_kept HT.out HY.out (Nat.ne_of_gt hgl10)) k (show k < 8 from hlt)
                  have fx := blk_frozen HX.out k
                  have HS := Lib.hid (addTo_set s.list t.list k)
                  generalize s.list.getD k 0 = x at cx HS
                  generalize t.list.getD k 0 = y at cy HS
                  unfold wordV at cx cy
                  obtain ⟨z, hz⟩ : ∃ z, z = x + y := ⟨_, rfl⟩
                  have sz : ((x.toNat : Int) + (y.toNat : Int)) % 4294967296 = (z.toNat : Int) := by rw [hz]; exact addW _ _
                  have sz' : IntKind.u32.wrap ((x.toNat : Int) + (y.toNat : Int)) = (z.toNat : Int) := by rw [hz]; exact addW' _ _
                  rw [← hz] at HS
                  clear hz
                  have j0 : (0 : Int) ≤ (k : Int) := by omega
                  have j1 : (k : Int) < 8 := by omega
                  go_wp2
                  go_still_tail 11, (by kernel_rfl)
                  change wpList _ _ _ _ _ (World.drew _)
                  go_wp2
                  go_roundw
                  case rel =>
                    refine ⟨k + 1, by omega, by go_num, Lib.hid ?_, Lib.hid (grown_trans (grown_drewN HY.out 1) (set_grown' _ _ _))⟩
                    rw [← HS.out]
                    exact blk_setCell HX.out k z
                  case measure => simp [intOf]; omega
                · obtain rfl : k = 8 := by omega
                  go_wp2
                  go_end0
                  exact ⟨rfl, grown_trans HRr.out HY.out, by have h := HX.out; rw [addTo_all] at h; rw [HTT.out] at h; exact h⟩

end Go.Proofs.Ytnkbkkbpmjemiaa

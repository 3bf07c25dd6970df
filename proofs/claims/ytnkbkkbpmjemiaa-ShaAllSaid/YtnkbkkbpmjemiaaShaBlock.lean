/- What the reference's block does: a block of 64 bytes is mixed into eight words, which are handed back. Conditions: the bytes are read. -/
import Derived.Test.YtnkbkkbpmjemiaaShaBlk
import Derived.Deep.QuietTactic
import Derived.BigQuiet
import Derived.StillTailTactics
import Derived.RegionTactic
import Derived.BigRegion
namespace Go.Proofs.Ytnkbkkbpmjemiaa
open Go.RowKit Sha

theorem alloc_at' {w : World} {n : Nat} (o : Obj) (h : w.heap.size = n) : (w.alloc o).heap[n]? = some o := h ▸ alloc_at w o

/-- What stands while the block is mixed: the words handed in, the constants, the room for the answer. -/
def Held (w : World) (s : St) (x : World) : Prop := Below w.heap.size w x ∧ x.heap[w.heap.size]? = some (.cells (blk s.list) 51) ∧ x.heap[w.heap.size + 1]? = some (.cells (blk K) 56) ∧ x.heap[w.heap.size + 1 + 1]? = some (.cells (blk (List.replicate 8 0)) 51)
theorem Held.keep {w x y : World} {s : St} {g : Nat} (h : Held w s x) (hg : x.grownBy y (some g)) (hge : w.heap.size + 1 + 1 < g) : Held w s y :=
  ⟨below_grown h.1 hg h.1.size (by omega), heap_kept h.2.1 hg (by omega), heap_kept h.2.2.1 hg (by omega), heap_kept h.2.2.2 hg (by omega)⟩
theorem Held.set {w x : World} {s : St} {g i : Nat} {v : Value} (h : Held w s x) (hge : w.heap.size + 1 + 1 < g) : Held w s (x.drew.setCell ⟨g, i, none⟩ v) :=
  h.keep (grown_trans (grown_drewN (World.grownBy.refl _ _) 1) (set_grown' _ _ _)) hge

theorem Held.alloc {w x : World} {s : St} (h : Held w s x) (o : Obj) : Held w s (x.alloc o) :=
  ⟨h.1.alloc h.1.size _, alloc_under h.2.1 _, alloc_under h.2.2.1 _, alloc_under h.2.2.2 _⟩
/-- The same, the schedule whole. -/
def Held2 (w : World) (s : St) (m : List UInt8) (x : World) : Prop := Held w s x ∧ x.heap[w.heap.size + 1 + 1 + 1]? = some (.cells (blk (sched m 48)) 56)
theorem Held2.alloc {w x : World} {s : St} {m : List UInt8} (h : Held2 w s m x) (o : Obj) : Held2 w s m (x.alloc o) := ⟨h.1.alloc o, alloc_under h.2 _⟩
theorem Held2.keep {w x y : World} {s : St} {m : List UInt8} {g : Nat} (h : Held2 w s m x) (hg : x.grownBy y (some g)) (hge : w.heap.size + 1 + 1 + 1 < g) : Held2 w s m y :=
  ⟨h.1.keep hg (by omega), heap_kept h.2 hg (by omega)⟩
theorem Held2.drew {w x : World} {s : St} {m : List UInt8} (h : Held2 w s m x) (n : Nat) : Held2 w s m (x.drewN n) :=
  ⟨⟨⟨h.1.1.os, h.1.1.tape, h.1.1.output, h.1.1.size, h.1.1.block⟩, h.1.2⟩, h.2⟩

set_option maxRecDepth 100000 in
set_option maxHeartbeats 4000000 in
theorem block_any (s : St) (ad : Addr) (c : Nat) (m : List UInt8) (w : World) (hm : m.length = 64) (hr : BRead w (some ad) m) :
    Calls Try.prog 34 #[.agg (blk s.list), .slice (some ad) 64 c, .agg (blk K)] w fun e w' => e = .returned (.agg (blk (Sha.mix s m).list)) ∧ Below w.heap.size w w' := by
  have HM := Lib.hid hm
  have HR := Lib.hid hr
  clear hm hr
  go_enter Try.func34, Try.ntmps34
  go_wp2
  go_loopw [8] (fun i wr => ∃ k : Nat, k ≤ 16 ∧ i = .int .i64 k ∧ Hid (wr.heap[w.heap.size + 1 + 1 + 1]? = some (.cells (blk (firsts m k ++ List.replicate (64 - k) 0)) 56)) ∧ Hid (Held w s wr)) (fun i _ => 16 - (intOf i).toNat)
  case atStart => exact ⟨0, by omega, rfl, Lib.hid (alloc_at' _ (by simp)), Lib.hid ⟨((((Below.refl _ _).alloc (Nat.le_refl _) _).alloc (by simp) _).alloc (by simp; omega) _).alloc (by simp; omega) _, alloc_under (alloc_under (alloc_under (alloc_at _ _) _) _) _, alloc_under (alloc_under (alloc_at' _ (by simp)) _) _, alloc_under (alloc_at' _ (by simp)) _⟩⟩
  case round =>
    obtain ⟨k, hk, rfl, HW, HB⟩ := hrel
    by_cases hlt : k < 16
    · have hb := HR.out.below HB.out.1
      have b0 := hb (4 * k) (by have := HM.out; omega)
      have b1 := hb (4 * k + 1) (by have := HM.out; omega)
      have b2 := hb (4 * k + 2) (by have := HM.out; omega)
      have b3 := hb (4 * k + 3) (by have := HM.out; omega)
      obtain ⟨_, e0, c0⟩ := b0; cases e0
      obtain ⟨_, e1, c1⟩ := b1; cases e1
      rw [add_pos ad _ (by omega)] at c1
      obtain ⟨_, e2, c2⟩ := b2; cases e2
      rw [add_pos ad _ (by omega)] at c2
      obtain ⟨_, e3, c3⟩ := b3; cases e3
      rw [add_pos ad _ (by omega)] at c3
      obtain ⟨x0, hx0⟩ : ∃ x, x = m.getD (4 * k) 0 := ⟨_, rfl⟩
      rw [← hx0] at c0
      obtain ⟨x1, hx1⟩ : ∃ x, x = m.getD (4 * k + 1) 0 := ⟨_, rfl⟩
      rw [← hx1] at c1
      obtain ⟨x2, hx2⟩ : ∃ x, x = m.getD (4 * k + 2) 0 := ⟨_, rfl⟩
      rw [← hx2] at c2
      obtain ⟨x3, hx3⟩ : ∃ x, x = m.getD (4 * k + 3) 0 := ⟨_, rfl⟩
      rw [← hx3] at c3
      have HF : Hid (firsts m (k + 1) = firsts m k ++ [word x0 x1 x2 x3]) := Lib.hid (by rw [firsts_succ, hx0, hx1, hx2, hx3])
      clear hx0 hx1 hx2 hx3
      have hcell : wr.cell? ⟨w.heap.size + 1 + 1 + 1, k, none⟩ = some (wordV ((firsts m k ++ List.replicate (64 - k) 0).getD k 0)) := blk_cell HW.out k (by simp [firsts]; omega)
      have hfr := blk_frozen HW.out k
      generalize wordV ((firsts m k ++ List.replicate (64 - k) 0).getD k 0) = old at hcell
      have j0 : (0 : Int) ≤ (k : Int) := by omega
      have j1 : (k : Int) < 16 := by omega
      have j2 : (k : Int) < 64 := by omega
      have w0 : IntKind.i64.wrap (4 * (k : Int)) = 4 * (k : Int) := IntWalk.i64_in _ (by omega)
      have w1 : IntKind.i64.wrap (4 * (k : Int) + 1) = 4 * (k : Int) + 1 := IntWalk.i64_in _ (by omega)
      have w2 : IntKind.i64.wrap (4 * (k : Int) + 2) = 4 * (k : Int) + 2 := IntWalk.i64_in _ (by omega)
      have w3 : IntKind.i64.wrap (4 * (k : Int) + 3) = 4 * (k : Int) + 3 := IntWalk.i64_in _ (by omega)
      have d0 : (0 : Int) ≤ 4 * (k : Int) ∧ 4 * (k : Int) < 64 := by omega
      have d1 : (0 : Int) ≤ 4 * (k : Int) + 1 ∧ 4 * (k : Int) + 1 < 64 := by omega
      have d2 : (0 : Int) ≤ 4 * (k : Int) + 2 ∧ 4 * (k : Int) + 2 < 64 := by omega
      have d3 : (0 : Int) ≤ 4 * (k : Int) + 3 ∧ 4 * (k : Int) + 3 < 64 := by omega
      obtain ⟨d01, d02⟩ := d0
      obtain ⟨d11, d12⟩ := d1
      obtain ⟨d21, d22⟩ := d2
      obtain ⟨d31, d32⟩ := d3
      have q0 : (4 * (k : Int)).toNat = 4 * k := by omega
      have q1 : (4 * (k : Int) + 1).toNat = 4 * k + 1 := by omega
      have q2 : (4 * (k : Int) + 2).toNat = 4 * k + 2 := by omega
      have q3 : (4 * (k : Int) + 3).toNat = 4 * k + 3 := by omega
      clear hb
      go_wp2
      go_still_tail 35, (by kernel_rfl)
      change wpList _ _ _ _ _ wr.drew
      rw [wordE]
      go_wp2
      go_roundw
      case rel =>
        refine ⟨k + 1, by omega, by go_num, Lib.hid ?_, Lib.hid (HB.out.set (by omega))⟩
        have e := blk_setCell (w := wr.drew) HW.out k (word x0 x1 x2 x3)
        have e2 := fill_set (firsts m k) (64 - k) (word x0 x1 x2 x3) (by omega)
        rw [firsts_length] at e2
        rw [e2, ← HF.out] at e
        exact e
      case measure => simp [intOf]; omega
    · obtain rfl : k = 16 := by omega
      clear hlt hk
      go_wp2
      rw [show ((16 : Nat) : Int) = (16 : Int) from rfl]
      go_loopw [9] (fun i wr => ∃ k : Nat, 16 ≤ k ∧ k ≤ 64 ∧ i = .int .i64 k ∧ Hid (wr.heap[w.heap.size + 1 + 1 + 1]? = some (.cells (blk (sched m (k - 16) ++ List.replicate (64 - k) 0)) 56)) ∧ Hid (Held w s wr)) (fun i _ => 64 - (intOf i).toNat)
      case atStart => exact ⟨16, by omega, by omega, rfl, HW, HB⟩
      case round =>
        clear HW HB
        obtain ⟨k, hk16, hk, rfl, HW, HB⟩ := hrel
        by_cases hlt : k < 64
        · have hL := sched_length m (k - 16)
          have c16 : wr.cell? ⟨w.heap.size + 1 + 1 + 1, k - 16, none⟩ = some (wordV ((sched m (k - 16)).getD (k - 16) 0)) := by rw [blk_cell HW.out _ (by simp; omega), fill_get _ _ _ (by omega)]
          have c15 : wr.cell? ⟨w.heap.size + 1 + 1 + 1, k - 15, none⟩ = some (wordV ((sched m (k - 16)).getD (k - 15) 0)) := by rw [blk_cell HW.out _ (by simp; omega), fill_get _ _ _ (by omega)]
          have c7 : wr.cell? ⟨w.heap.size + 1 + 1 + 1, k - 7, none⟩ = some (wordV ((sched m (k - 16)).getD (k - 7) 0)) := by rw [blk_cell HW.out _ (by simp; omega), fill_get _ _ _ (by omega)]
          have c2 : wr.cell? ⟨w.heap.size + 1 + 1 + 1, k - 2, none⟩ = some (wordV ((sched m (k - 16)).getD (k - 2) 0)) := by rw [blk_cell HW.out _ (by simp; omega), fill_get _ _ _ (by omega)]
          obtain ⟨x16, h16⟩ : ∃ x, x = (sched m (k - 16)).getD (k - 16) 0 := ⟨_, rfl⟩
          obtain ⟨x15, h15⟩ : ∃ x, x = (sched m (k - 16)).getD (k - 15) 0 := ⟨_, rfl⟩
          obtain ⟨x7, h7⟩ : ∃ x, x = (sched m (k - 16)).getD (k - 7) 0 := ⟨_, rfl⟩
          obtain ⟨x2, h2⟩ : ∃ x, x = (sched m (k - 16)).getD (k - 2) 0 := ⟨_, rfl⟩
          rw [← h16] at c16
          rw [← h15] at c15
          rw [← h7] at c7
          rw [← h2] at c2
          have HN : Hid (sched m (k + 1 - 16) = sched m (k - 16) ++ [nextW x16 x15 x7 x2]) := Lib.hid (by
            rw [show k + 1 - 16 = (k - 16) + 1 by omega, sched, next, hL, h16, h15, h7, h2, show 16 + (k - 16) = k by omega])
          have HL := Lib.hid hL
          clear h16 h15 h7 h2 hL
          unfold wordV at c16 c15 c7 c2
          have hcell : wr.cell? ⟨w.heap.size + 1 + 1 + 1, k, none⟩ = some (wordV ((sched m (k - 16) ++ List.replicate (64 - k) 0).getD k 0)) := blk_cell HW.out k (by simp [HL.out]; omega)
          have hfr := blk_frozen HW.out k
          generalize wordV ((sched m (k - 16) ++ List.replicate (64 - k) 0).getD k 0) = old at hcell
          have j0 : (0 : Int) ≤ (k : Int) := by omega
          have j1 : (k : Int) < 64 := by omega
          have i16 : (16 : Int) ≤ (k : Int) := by omega
          have i15 : (15 : Int) ≤ (k : Int) := by omega
          have i7 : (7 : Int) ≤ (k : Int) := by omega
          have i2 : (2 : Int) ≤ (k : Int) := by omega
          have w16 : IntKind.i64.wrap ((k : Int) - 16) = (k : Int) - 16 := IntWalk.i64_in _ (by omega)
          have w15 : IntKind.i64.wrap ((k : Int) - 15) = (k : Int) - 15 := IntWalk.i64_in _ (by omega)
          have w7 : IntKind.i64.wrap ((k : Int) - 7) = (k : Int) - 7 := IntWalk.i64_in _ (by omega)
          have w2 : IntKind.i64.wrap ((k : Int) - 2) = (k : Int) - 2 := IntWalk.i64_in _ (by omega)
          have d16 : (k : Int) - 16 < 64 := by omega
          have d15 : (k : Int) - 15 < 64 := by omega
          have d7 : (k : Int) - 7 < 64 := by omega
          have d2 : (k : Int) - 2 < 64 := by omega
          have q16 : ((k : Int) - 16).toNat = k - 16 := by omega
          have q15 : ((k : Int) - 15).toNat = k - 15 := by omega
          have q7 : ((k : Int) - 7).toNat = k - 7 := by omega
          have q2 : ((k : Int) - 2).toNat = k - 2 := by omega
          go_wp2
          go_quiet (fail)
          go_wp2
          obtain ⟨wq, hwq⟩ : ∃ wq, wq = wr.drewN nq := ⟨_, rfl⟩
          have c16' : wq.cell? ⟨w.heap.size + 1 + 1 + 1, k - 16, none⟩ = some (.int .u32 (x16.toNat : Int)) := by rw [hwq]; exact c16
          have c7' : wq.cell? ⟨w.heap.size + 1 + 1 + 1, k - 7, none⟩ = some (.int .u32 (x7.toNat : Int)) := by rw [hwq]; exact c7
          have hcell' : wq.cell? ⟨w.heap.size + 1 + 1 + 1, k, none⟩ = some old := by rw [hwq]; exact hcell
          have hfr' : wq.frozen? ⟨w.heap.size + 1 + 1 + 1, k, none⟩ = false := by rw [hwq]; exact hfr
          have HW' : Hid (wq.heap[w.heap.size + 1 + 1 + 1]? = some (.cells (blk (sched m (k - 16) ++ List.replicate (64 - k) 0)) 56)) := Lib.hid (by rw [hwq]; exact HW.out)
          have HB' : Hid (Held w s wq) := Lib.hid (by rw [hwq]; exact ⟨⟨HB.out.1.os, HB.out.1.tape, HB.out.1.output, HB.out.1.size, HB.out.1.block⟩, HB.out.2⟩)
          rw [← hwq]
          clear c16 c7 c15 c2 hcell hfr HW HB hwq
          refine wp_region_still_tail 29 (by kernel_rfl) (by kernel_rfl) ?_
          simp only [List.take_succ_cons, List.take_zero, List.drop_succ_cons, List.drop_zero]
          repeat still_step
          still_call (still_of (rot_7 x15 _))
          repeat still_step
          still_call (still_of (rot_18 x15 _))
          repeat still_step
          still_call (still_of (rot_17 x2 _))
          repeat still_step
          still_call (still_of (rot_19 x2 _))
          repeat still_step
          refine wpStill_nil ?_
          change wpList _ _ _ _ _ wq.drew
          rw [nextR]
          go_wp2
          go_roundw
          case rel =>
            refine ⟨k + 1, by omega, by omega, by go_num, Lib.hid ?_, Lib.hid (HB'.out.set (by omega))⟩
            have e := blk_setCell (w := wq.drew) HW'.out k (nextW x16 x15 x7 x2)
            have e2 := fill_set (sched m (k - 16)) (64 - k) (nextW x16 x15 x7 x2) (by omega)
            rw [HL.out, show 16 + (k - 16) = k by omega] at e2
            rw [e2, ← HN.out] at e
            exact e
          case measure => simp [intOf]; omega
        · obtain rfl : k = 64 := by omega
          clear hlt hk hk16
          rw [show ((64 : Nat) : Int) = (64 : Int) from rfl]
          have HH2 : Hid (Held2 w s m wr) := Lib.hid ⟨HB.out, by
            have e := HW.out
            simp only [Nat.sub_self, List.replicate_zero, List.append_nil] at e
            exact e⟩
          have HL9 : Hid (w.heap.size + 1 + 1 + 1 < wr.heap.size) := Lib.hid (heap_lt HW.out)
          clear HW HB
          generalize wr = w8 at *
          go_wp2_with (first
            | (refine wpList_load_row rfl 51 (.tmp 3) rfl w.heap.size rfl 51 (blk s.list) (0, 0) _ HH2.out.1.2.1 Try.underlying51 rfl (by kernel_rfl) ?_)
            | (refine store_block rfl 51 (.tmp 12) (.tmp 99) rfl w8.heap.size 51 (blk (List.replicate 8 0)) (blk s.list) rfl rfl (alloc_at _ _) rfl (by kernel_rfl) (blk_one _) ?_; intro w4 h4 hg4 _; have HT4 := Lib.hid h4; have HX4 := Lib.hid ((HH2.out.alloc _).keep hg4 HL9.out); clear h4 hg4))
          clear HH2
          have HQ := HL9.out
          generalize w8.heap.size = g9 at HT4 HL9 HQ HX4 ⊢
          clear HQ
          go_loopw [13] (fun i wr => ∃ k : Nat, k ≤ 64 ∧ i = .int .i64 k ∧ Hid (wr.heap[g9]? = some (.cells (blk (rnds (sched m 48) s k).list) 51)) ∧ Hid (Held2 w s m wr)) (fun i _ => 64 - (intOf i).toNat)
          case atStart => exact ⟨0, by omega, rfl, HT4, HX4⟩
          case round =>
            obtain ⟨k, hk, rfl, HT, HG⟩ := hrel
            by_cases hlt : k < 64
            · have hk4 := blk_cell HG.out.1.2.2.1 k (by simp [K]; omega)
              have hw4 := blk_cell HG.out.2 k (by rw [sched_length]; omega)
              have HR1 : Hid (rnds (sched m 48) s (k + 1) = rnd (rnds (sched m 48) s k) (K.getD k 0) ((sched m 48).getD k 0)) := Lib.hid rfl
              generalize K.getD k 0 = kk at hk4 HR1
              generalize (sched m 48).getD k 0 = ww at hw4 HR1
              unfold wordV at hk4 hw4
              obtain ⟨t, ht⟩ : ∃ t, t = rnds (sched m 48) s k := ⟨_, rfl⟩
              rw [← ht] at HT HR1
              clear ht
              obtain ⟨a, b, c', d, e, f, g, x8⟩ := t
              obtain ⟨c0, c1, c2, c3, c4, c5, c6, c7⟩ := st_cells HT.out
              have j0 : (0 : Int) ≤ (k : Int) := by omega
              have j1 : (k : Int) < 64 := by omega
              go_wp2
              go_quiet (fail)
              rename Nat => n1
              go_wp2
              go_quiet (first | (go_at_call 37; with_reducible exact quiet_add_left (rot_6 e _)) | (go_at_call 37; with_reducible exact quiet_add_left (rot_11 e _)) | (go_at_call 37; with_reducible exact quiet_add_left (rot_25 e _)))
              rename Nat => n2
              rw [oneQ]
              go_wp2
              go_quiet (first | (go_at_call 37; with_reducible exact quiet_add_left (rot_2 a _)) | (go_at_call 37; with_reducible exact quiet_add_left (rot_13 a _)) | (go_at_call 37; with_reducible exact quiet_add_left (rot_22 a _)))
              rename Nat => n3
              rw [twoQ]
              obtain ⟨wq, hwq⟩ : ∃ x, x = (wr.drewN (n1 + n2)).drewN n3 := ⟨_, rfl⟩
              have HTq : Hid (wq.heap[g9]? = some (.cells (blk (St.list ⟨a, b, c', d, e, f, g, x8⟩)) 51)) := Lib.hid (by rw [hwq]; exact HT.out)
              have HGq : Hid (Held2 w s m wq) := Lib.hid (by rw [hwq]; exact (HG.out.drew _).drew _)
              generalize hO : oneW e f g x8 kk ww = o1
              generalize hT : twoW a b c' = o2
              have HO := Lib.hid hO
              have HT2 := Lib.hid hT
              clear hO hT
              rw [← hwq]
              clear hwq c0 c1 c2 c3 c4 c5 c6 c7 hk4 hw4 HT HG
              obtain ⟨c0, c1, c2, c3, c4, c5, c6, c7⟩ := st_cells HTq.out
              obtain ⟨p0, hp0⟩ : ∃ x, x = o1 + o2 := ⟨_, rfl⟩
              obtain ⟨p4, hp4⟩ : ∃ x, x = d + o1 := ⟨_, rfl⟩
              have s0 : ((o1.toNat : Int) + (o2.toNat : Int)) % 4294967296 = (p0.toNat : Int) := by rw [hp0]; exact addW _ _
              have s0' : IntKind.u32.wrap ((o1.toNat : Int) + (o2.toNat : Int)) = (p0.toNat : Int) := by rw [hp0]; exact addW' _ _
              have s4 : ((d.toNat : Int) + (o1.toNat : Int)) % 4294967296 = (p4.toNat : Int) := by rw [hp4]; exact addW _ _
              have s4' : IntKind.u32.wrap ((d.toNat : Int) + (o1.toNat : Int)) = (p4.toNat : Int) := by rw [hp4]; exact addW' _ _
              have HP0 := Lib.hid hp0
              have HP4 := Lib.hid hp4
              clear hp0 hp4
              go_wp2_with (refine store_block rfl 51 (.tmp 12) (.tmp 181) rfl g9 51 (blk (St.list ⟨a, b, c', d, e, f, g, x8⟩)) (blk (St.list ⟨p0, a, b, c', p4, e, f, g⟩)) rfl rfl HTq.out rfl (by kernel_rfl) (blk_one _) ?_; intro w5 h5 hg5 _; have HT5 := Lib.hid h5; have HX5 := Lib.hid (HGq.out.keep hg5 HL9.out); clear h5 hg5)
              go_roundw
              case rel =>
                refine ⟨k + 1, by omega, by go_num, Lib.hid ?_, HX5⟩
                rw [HR1.out]
                have e : rnd ⟨a, b, c', d, e, f, g, x8⟩ kk ww = ⟨p0, a, b, c', p4, e, f, g⟩ := by
                  show (⟨_, _, _, _, _, _, _, _⟩ : St) = _
                  rw [HP0.out, HP4.out, ← HO.out, ← HT2.out]
                  rfl
                rw [e]
                exact HT5.out
              case measure => simp [intOf]; omega
            · obtain rfl : k = 64 := by omega
              clear hlt hk HT4 HX4
              go_wp2
              rw [show ((64 : Nat) : Int) = (64 : Int) from rfl]
              obtain ⟨t, ht⟩ : ∃ t, t = rnds (sched m 48) s 64 := ⟨_, rfl⟩
              rw [← ht] at HT
              have HTT := Lib.hid ht
              clear ht
              go_loopw [18] (fun i wx => ∃ k : Nat, k ≤ 8 ∧ i = .int .i64 k ∧ Hid (wx.heap[w.heap.size]? = some (.cells (blk (addTo s.list t.list k)) 51)) ∧ Hid (Below w.heap.size w wx ∧ wx.heap[g9]? = some (.cells (blk t.list) 51) ∧ wx.heap[w.heap.size + 1 + 1]? = some (.cells (blk (List.replicate 8 0)) 51))) (fun i _ => 8 - (intOf i).toNat)
              case atStart => exact ⟨0, by omega, rfl, Lib.hid (by rw [addTo_none]; exact HG.out.1.2.1), Lib.hid ⟨HG.out.1.1, HT.out, HG.out.1.2.2.2⟩⟩
              case round =>
                clear HT HG
                obtain ⟨k, hk, rfl, HX, HY⟩ := hrel
                by_cases hlt : k < 8
                · have cx := blk_cell HX.out k (by rw [addTo_length]; exact hlt)
                  rw [addTo_get _ _ _ _ hlt, if_neg (Nat.lt_irrefl k)] at cx
                  have cy := blk_cell HY.out.2.1 k (show k < 8 from hlt)
                  have fx := blk_frozen HX.out k
                  have HS := Lib.hid (addTo_set s.list t.list k)
                  generalize s.list.getD k 0 = x at cx HS
                  generalize t.list.getD k 0 = y at cy HS
                  unfold wordV at cx cy
                  obtain ⟨z, hz⟩ : ∃ z, z = x + y := ⟨_, rfl⟩
                  have sz : ((x.toNat : Int) + (y.toNat : Int)) % 4294967296 = (z.toNat : Int) := by rw [hz]; exact addW _ _
                  have sz' : IntKind.u32.wrap ((x.toNat : Int) + (y.toNat : Int)) = (z.toNat : Int) := by rw [hz]; exact addW' _ _
                  rw [← hz] at HS
                  clear hz
                  have j0 : (0 : Int) ≤ (k : Int) := by omega
                  have j1 : (k : Int) < 8 := by omega
                  go_wp2
                  go_still_tail 8, (by kernel_rfl)
                  change wpList _ _ _ _ _ (World.drew _)
                  go_wp2
                  go_roundw
                  case rel =>
                    refine ⟨k + 1, by omega, by go_num, Lib.hid ?_, Lib.hid ?_⟩
                    · rw [← HS.out]
                      exact blk_setCell HX.out k z
                    · have hg : wr.grownBy ((wr.drewN 1).setCell ⟨w.heap.size, k, none⟩ (wordV z)) (some w.heap.size) := grown_trans (grown_drewN (World.grownBy.refl wr _) 1) (set_grown' (wr.drewN 1) ⟨w.heap.size, k, none⟩ (wordV z))
                      have := HL9.out
                      exact ⟨below_grown HY.out.1 hg HY.out.1.size (Nat.le_refl _), heap_kept HY.out.2.1 hg (by omega), heap_kept HY.out.2.2 hg (by omega)⟩
                  case measure => simp [intOf]; omega
                · obtain rfl : k = 8 := by omega
                  have HE : Hid (wr.heap[w.heap.size]? = some (.cells (blk (Sha.mix s m).list) 51)) := Lib.hid (by have h := HX.out; rw [addTo_all] at h; rw [HTT.out] at h; exact h)
                  clear HX hlt hk
                  obtain ⟨r, hr⟩ : ∃ r, r = Sha.mix s m := ⟨_, rfl⟩
                  rw [← hr] at HE
                  go_wp2_with (first
                    | (refine wpList_load_row rfl 51 (.tmp 3) rfl w.heap.size rfl 51 (blk r.list) (0, 0) _ HE.out Try.underlying51 rfl (by kernel_rfl) ?_)
                    | (refine store_block rfl 51 (.tmp 6) (.tmp 194) rfl (w.heap.size + 1 + 1) 51 (blk (List.replicate 8 0)) (blk r.list) rfl rfl HY.out.2.2 rfl (by kernel_rfl) (blk_one _) ?_; intro w6 h6 hg6 _))
                  exact bodyPost_ret (v := .agg (blk r.list)) (results_cell_row Try.results34 _ _ (w.heap.size + 1 + 1) 51 (blk r.list) (0, 0) _ rfl h6 Try.underlying51 rfl (by kernel_rfl)) rfl
                    ⟨by rw [hr], below_grown HY.out.1 hg6 HY.out.1.size (by omega)⟩

end Go.Proofs.Ytnkbkkbpmjemiaa

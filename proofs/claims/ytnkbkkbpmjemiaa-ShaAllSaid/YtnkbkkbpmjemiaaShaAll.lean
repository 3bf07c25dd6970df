/- The law ShaAll answers true: any bytes have their hash, at every length. Conditions: the argument reads as a row of bytes. -/
import Derived.Test.YtnkbkkbpmjemiaaShaAllRegion
import Derived.Laws.MakeOwn
namespace Go.Proofs.Ytnkbkkbpmjemiaa
open Go.RowKit Sha

set_option maxHeartbeats 400000 in
theorem shorter_any (A : Option Addr) (n c : Nat) (m : Nat) (w : World) (hn : n ≤ c) (_hc : c ≤ 9223372036854775807) (hm : m ≤ 9223372036854775807) :
    Calls Try.prog 10 #[.slice A n c, .int .i64 m] w fun e w' => e = .returned (.slice A (min n m) c) ∧ w = w' := by
  go_enter Try.func10, Try.ntmps10
  by_cases h : m < n
  · have e : min n m = m := by omega
    rw [e]
    go_wp2
    go_ret
    exact ⟨rfl, rfl⟩
  · have e : min n m = n := by omega
    rw [e]
    go_wp2
    go_ret
    exact ⟨rfl, rfl⟩
theorem made_zero (q : Nat) : madeCells (Value.int .u8 0).cells q = bblk (List.replicate q 0) := by
  apply Array.ext
  · simp [size_madeCells, bblk_size]
  · intro i h1 h2
    simp [madeCells, bblk, Value.cells, byteV, Nat.mod_one]
theorem run_zeros (q : Nat) (w : World) (h : q ≤ 1000) : (Instr.makeSlice 25 (.int .i64 (q : Int)) (.int .i64 (q : Int))).run Try.prog w = .ok (.slice (some ⟨w.heap.size, 0, none⟩) q q) (w.alloc (.cells (bblk (List.replicate q 0)) 5)) := by
  obtain ⟨i0, hi, hz0, hz1, hz2⟩ := info_parts Try.inf5
  have e := run_make (P := Try.prog) w 25 5 i0 (.int .u8 0) Try.underlying25 hi hz0 .i64 .i64 (q : Int) (q : Int) (by omega) (by omega) (by rw [hz2]; omega) (by omega)
  rw [hz1, Int.toNat_natCast, Nat.mul_one, made_zero] at e
  exact e

theorem tail_facts {w1 w3 w4 : World} {A : Option Addr} {l : List UInt8} {o : Obj} (hb3 : Below w1.heap.size w1 w3) (h4 : w4.heap[w3.heap.size]? = some (.cells (bblk (Sha.sum l)) 40)) (hg4 : (w3.alloc o).grownBy w4 (some w3.heap.size)) (hr : BRead w1 A l) :
    BRead w4 A l ∧ BRead w4 (some ⟨w3.heap.size, 0, none⟩) (Sha.sum l) ∧ Below w1.heap.size w1 w4 := by
  have hb : Below w1.heap.size w1 w4 := below_grown (hb3.alloc hb3.size _) hg4 (by rw [alloc_size]; exact Nat.le_succ_of_le hb3.size) hb3.size
  exact ⟨hr.below hb, bread_block h4 0 _ (by simp only [bblk, List.toList_toArray, List.drop_zero]; exact List.take_of_length_le (by rw [List.length_map]; exact Nat.le_refl _)), hb⟩
theorem row_read {w : World} {g : Nat} {L : List UInt8} (h : w.heap[g]? = some (.cells (bblk L) 5)) : BRead w (some ⟨g, 0, none⟩) L :=
  bread_block h 0 _ (by simp only [bblk, List.toList_toArray, List.drop_zero]; exact List.take_of_length_le (by rw [List.length_map]; exact Nat.le_refl _))

set_option maxRecDepth 100000 in
set_option maxHeartbeats 1000000 in
theorem shaall_walk (A : Option Addr) (n c : Nat) (l0 : List UInt8) (N : Int) (w : World) (hn : l0.length = n) (hnc : n ≤ c) (hc : c ≤ 9223372036854775807) (hA : A = none → c = 0) (hr : BRead w A l0) (b1 : -9223372036854775808 ≤ N) (b2 : N ≤ 9223372036854775807) :
    Calls Try.prog 7 #[.slice A n c, .int .i64 N] w fun e w' => e = .returned (.bool true) ∧ Below w.heap.size w w' := by
  have hlen : (l0.take 200).length = min n 200 := by rw [List.length_take, hn, Nat.min_comm]
  have hsh : ∀ w, Calls Try.prog 10 #[.slice A n c, .int .i64 200] w fun e w' => e = .returned (.slice A (min n 200) c) ∧ w = w' := fun w => shorter_any A n c 200 w hnc hc (by decide)
  have hm : min n 200 ≤ 200 := by omega
  have hmc : min n 200 ≤ c := by omega
  have hrd := hr.take 200
  generalize l0.take 200 = l at *
  generalize min n 200 = m at *
  have HA := Lib.hid hA
  have HL := Lib.hid hlen
  have HR := Lib.hid hrd
  have HM := Lib.hid hm
  have HC := Lib.hid hmc
  have HS := Lib.hid hsh
  clear hlen hsh hm hmc hrd hr hA hn hnc l0
  by_cases hin : 0 ≤ N ∧ N ≤ 130
  · obtain ⟨h0, h1⟩ := hin
    obtain ⟨q, rfl⟩ := Int.eq_ofNat_of_zero_le h0
    have hq : q ≤ 130 := by omega
    have kz : ∀ w, (Instr.makeSlice 25 (.int .i64 (q : Int)) (.int .i64 (q : Int))).run Try.prog w = .ok (.slice (some ⟨w.heap.size, 0, none⟩) q q) (w.alloc (.cells (bblk (List.replicate q 0)) 5)) := fun w => run_zeros q w (by omega)
    go_enter Try.func7, Try.ntmps7
    go_wp2_with (first
      | (go_at_call 19; refine (begun_any _).mono ?_; rintro e w1 ⟨rfl, hb1⟩; have HB1 := Lib.hid hb1; clear hb1)
      | (go_at_call 10; refine (HS.out _).mono ?_; rintro e w2 ⟨rfl, rfl⟩))
    have HG : Hid (w.heap.size ≤ w1.heap.size) := Lib.hid HB1.out.size
    have HH : Hid ((w1.alloc (.cells (bblk (List.replicate q 0)) 5)).heap[w1.heap.size]? = some (.cells (bblk (List.replicate q 0)) 5)) := Lib.hid (alloc_at _ _)
    have HB2 := Lib.hid (HB1.out.alloc HB1.out.size (.cells (bblk (List.replicate q 0)) 5))
    clear kz HB1
    generalize w1.heap.size = g at *
    go_loopw [7] (fun i wx => ∃ k : Nat, k ≤ q ∧ i = .int .i64 k ∧ ∃ L : List UInt8, Hid (L.length = q) ∧ Hid (wx.heap[g]? = some (.cells (bblk L) 5)) ∧ Hid (Below w.heap.size w wx)) (fun i _ => q - (intOf i).toNat)
    case atStart => exact ⟨0, by omega, rfl, _, Lib.hid (List.length_replicate), HH, HB2⟩
    case round =>
      clear HH HB2
      obtain ⟨k, hk, rfl, L, HQ, HH, HB⟩ := hrel
      by_cases hgo : k < q ∧ 0 < m
      · obtain ⟨hlt, hpos⟩ := hgo
        have hjm : k % m < m := Nat.mod_lt _ hpos
        obtain ⟨ad, e, hcell⟩ := HR.out (k % m) (by rw [HL.out]; exact hjm)
        subst e
        have hcw := (HB.out.cell (World.block_lt_of_cell? w _ hcell)).trans hcell
        have r1 : (k : Int) % (m : Int) = ((k % m : Nat) : Int) := rfl
        clear hcell
        generalize k % m = j at *
        generalize l.getD j 0 = b at *
        have k0 : (0 : Int) ≤ (k : Int) := by omega
        have k1 : (k : Int) < (q : Int) := by omega
        have m0 : (0 : Int) < (m : Int) := by omega
        have m1 : (1 : Int) ≤ (m : Int) := by omega
        have j0 : (0 : Int) ≤ (j : Int) := by omega
        have j1 : (j : Int) < (m : Int) := by omega
        go_wp2_with (refine store_byte rfl (.tmp 41) (.tmp 40) rfl g k 5 L b rfl rfl HH.out (by rw [HQ.out]; exact hlt) ?_; intro w8 h8 hg8; have H8 := Lib.hid h8; have HB8 := Lib.hid (below_grown HB.out hg8 HB.out.size HG.out); clear h8 hg8)
        go_roundw
        case rel => exact ⟨k + 1, by omega, by go_num, _, Lib.hid (by rw [List.length_set]; exact HQ.out), H8, HB8⟩
        case measure => simp [intOf]; omega
      · have HR1 := Lib.hid (row_read HH.out)
        have HM2 : Hid (q ≤ 1000) := Lib.hid (by omega)
        by_cases hlt : k < q
        · have hm0 : m = 0 := by omega
          subst hm0
          clear hgo
          go_wp2_with (first
            | (go_at_call 20; refine (sum_any (some ⟨g, 0, none⟩) q q L _ HQ.out HM2.out (by intro h; cases h) HR1.out).mono ?_; rintro e w3 ⟨rfl, hb3⟩; have HB3 := Lib.hid hb3; clear hb3)
            | (refine store_block rfl 40 (.tmp 8) (.tmp 44) rfl w3.heap.size 40 (bblk (List.replicate 32 0)) (bblk (Sha.sum L)) rfl rfl (alloc_at _ _) (by rw [bblk_size, sum_length]; rfl) (by rw [bblk_size, sum_length]; kernel_rfl) (bblk_one _) ?_; intro w4 h4 hg4 hs4; obtain ⟨t1, t2, t3⟩ := tail_facts HB3.out h4 hg4 HR1.out; have T1 := Lib.hid t1; have T2 := Lib.hid t2; have T3 := Lib.hid t3; clear h4 hg4 hs4 t1 t2 t3))
          refine only_end (all_region (some ⟨g, 0, none⟩) q q _ L w4 HQ.out HM2.out (by intro h; cases h) T1.out T2.out (Lib.hid fun x50 w5 hb5 => ?_))
          have HB5 := Lib.hid (T3.out.trans (hb5.mono T3.out.size))
          clear hb5
          go_wp2
          go_ret
          exact ⟨rfl, HB.out.trans (HB5.out.mono HB.out.size)⟩
        · clear hgo
          go_wp2_with (first
            | (go_at_call 20; refine (sum_any (some ⟨g, 0, none⟩) q q L _ HQ.out HM2.out (by intro h; cases h) HR1.out).mono ?_; rintro e w3 ⟨rfl, hb3⟩; have HB3 := Lib.hid hb3; clear hb3)
            | (refine store_block rfl 40 (.tmp 8) (.tmp 44) rfl w3.heap.size 40 (bblk (List.replicate 32 0)) (bblk (Sha.sum L)) rfl rfl (alloc_at _ _) (by rw [bblk_size, sum_length]; rfl) (by rw [bblk_size, sum_length]; kernel_rfl) (bblk_one _) ?_; intro w4 h4 hg4 hs4; obtain ⟨t1, t2, t3⟩ := tail_facts HB3.out h4 hg4 HR1.out; have T1 := Lib.hid t1; have T2 := Lib.hid t2; have T3 := Lib.hid t3; clear h4 hg4 hs4 t1 t2 t3))
          refine only_end (all_region (some ⟨g, 0, none⟩) q q _ L w4 HQ.out HM2.out (by intro h; cases h) T1.out T2.out (Lib.hid fun x50 w5 hb5 => ?_))
          have HB5 := Lib.hid (T3.out.trans (hb5.mono T3.out.size))
          clear hb5
          go_wp2
          go_ret
          exact ⟨rfl, HB.out.trans (HB5.out.mono HB.out.size)⟩
  · by_cases h0 : 0 ≤ N
    · have h1 : ¬ N ≤ 130 := by omega
      clear hin
      go_enter Try.func7, Try.ntmps7
      go_wp2_with (first
        | (go_at_call 19; refine (begun_any _).mono ?_; rintro e w1 ⟨rfl, hb1⟩; have HB1 := Lib.hid hb1; have HR1 := Lib.hid (HR.out.below hb1); clear hb1)
        | (go_at_call 10; refine (HS.out _).mono ?_; rintro e w2 ⟨rfl, rfl⟩)
        | (go_at_call 20; fail))
      go_wp2_with (first
        | (go_at_call 20; refine (sum_any A m c l _ HL.out (Nat.le_trans HM.out (by decide)) HA.out HR1.out).mono ?_; rintro e w3 ⟨rfl, hb3⟩; have HB3 := Lib.hid hb3; clear hb3)
        | (refine store_block rfl 40 (.tmp 8) (.tmp 44) rfl w3.heap.size 40 (bblk (List.replicate 32 0)) (bblk (Sha.sum l)) rfl rfl (alloc_at _ _) (by rw [bblk_size, sum_length]; rfl) (by rw [bblk_size, sum_length]; kernel_rfl) (bblk_one _) ?_; intro w4 h4 hg4 hs4; obtain ⟨t1, t2, t3⟩ := tail_facts HB3.out h4 hg4 HR1.out; have T1 := Lib.hid t1; have T2 := Lib.hid t2; have T3 := Lib.hid t3; clear h4 hg4 hs4 t1 t2 t3))
      refine only_end (all_region A m c _ l w4 HL.out (Nat.le_trans HM.out (by decide)) HA.out T1.out T2.out (Lib.hid fun x50 w5 hb5 => ?_))
      have HB5 := Lib.hid (T3.out.trans (hb5.mono T3.out.size))
      clear hb5
      go_wp2
      go_ret
      exact ⟨rfl, HB1.out.trans (HB5.out.mono HB1.out.size)⟩
    · go_enter Try.func7, Try.ntmps7
      go_wp2_with (first
        | (go_at_call 19; refine (begun_any _).mono ?_; rintro e w1 ⟨rfl, hb1⟩; have HB1 := Lib.hid hb1; have HR1 := Lib.hid (HR.out.below hb1); clear hb1)
        | (go_at_call 10; refine (HS.out _).mono ?_; rintro e w2 ⟨rfl, rfl⟩)
        | (go_at_call 20; fail))
      go_wp2_with (first
        | (go_at_call 20; refine (sum_any A m c l _ HL.out (Nat.le_trans HM.out (by decide)) HA.out HR1.out).mono ?_; rintro e w3 ⟨rfl, hb3⟩; have HB3 := Lib.hid hb3; clear hb3)
        | (refine store_block rfl 40 (.tmp 8) (.tmp 44) rfl w3.heap.size 40 (bblk (List.replicate 32 0)) (bblk (Sha.sum l)) rfl rfl (alloc_at _ _) (by rw [bblk_size, sum_length]; rfl) (by rw [bblk_size, sum_length]; kernel_rfl) (bblk_one _) ?_; intro w4 h4 hg4 hs4; obtain ⟨t1, t2, t3⟩ := tail_facts HB3.out h4 hg4 HR1.out; have T1 := Lib.hid t1; have T2 := Lib.hid t2; have T3 := Lib.hid t3; clear h4 hg4 hs4 t1 t2 t3))
      refine only_end (all_region A m c _ l w4 HL.out (Nat.le_trans HM.out (by decide)) HA.out T1.out T2.out (Lib.hid fun x50 w5 hb5 => ?_))
      have HB5 := Lib.hid (T3.out.trans (hb5.mono T3.out.size))
      clear hb5
      go_wp2
      go_ret
      exact ⟨rfl, HB1.out.trans (HB5.out.mono HB1.out.size)⟩

end Go.Proofs.Ytnkbkkbpmjemiaa

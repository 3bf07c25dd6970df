/- What the reference's Hex does: the hash of bytes, written in digits. Conditions: the bytes are read; they are few. The region's steps are printed by gen_hexb.py. -/
import Derived.Test.YtnkbkkbpmjemiaaShaStr
import Derived.Test.YtnkbkkbpmjemiaaShaRef
namespace Go.Proofs.Ytnkbkkbpmjemiaa
open Go.RowKit Sha

noncomputable def gops : Array Oper := (Try.f23.body.bind (regionIn 7)).getD #[]
theorem gops_sel : Region.noSelect gops = true := by kernel_rfl
theorem index_digit_at (d : Value) (n : Nat) (hd : d = .string digits) (h : n < 16) (w : World) : (Instr.index 9 d (.int .u8 (n : Int))).run Try.prog w = .ok (byteV (digit n)) w := by
  rw [hd]; exact index_digit n h w

set_option maxRecDepth 100000 in
set_option maxHeartbeats 1000000 in
theorem hexb_region (g k n base : Nat) (v d : Value) (x : List UInt8) (b : UInt8) (w : World) {R : Act → World → Prop} {v0 v1 v2 v7 v8 v9 v10 v11 v12 v13 v14 v15 v16 v17 v18 v19 v20 v21 v22 v23 v24 v25 v26 v27 v28 v29 : Value} (hd : Hid (d = .string digits)) (hk : k < 32) (hn : n ≤ 1000) (hg : g < base) (hbase : base ≤ w.heap.size)
    (hcell : w.cell? ⟨g, k, none⟩ = some (byteV b)) (hown : w.ownsRow base 5 1 v n (x.map byteV))
    (hR : Hid (∀ v' w', w'.ownsRow base 5 1 v' (n + 2) ((x ++ hex2 b).map byteV) → Below base w w' → R ⟨#[v0, v1, v2, .pointer (some ⟨g, 0, none⟩), d, v', .int .i64 (k : Int), v7, v8, v9, v10, v11, v12, v, d, .int .i64 (k : Int), .pointer (some ⟨g, k, none⟩), byteV b, .int .u8 ((b.toNat / 16 : Nat) : Int), byteV (digit (b.toNat / 16)), d, .int .i64 (k : Int), .pointer (some ⟨g, k, none⟩), byteV b, .int .u8 ((b.toNat % 16 : Nat) : Int), byteV (digit (b.toNat % 16)), .slice (some ⟨w.heap.size, 0, none⟩) 2 2, v', v28, v29], []⟩ w')) :
    (Code.region 7 gops true).wp Try.prog (OnlyEnd R) ⟨#[v0, v1, v2, .pointer (some ⟨g, 0, none⟩), d, v, .int .i64 (k : Int), v7, v8, v9, v10, v11, v12, v13, v14, v15, v16, v17, v18, v19, v20, v21, v22, v23, v24, v25, v26, v27, v28, v29], []⟩ w := by
  have hb := b.toNat_lt
  have hB1 : Below base w (w.drew.alloc (.cells (bblk (hex2 b)) 5)) := ((Below.refl base w).drew).alloc hbase _
  have hS1 : (w.drew.alloc (.cells (bblk (hex2 b)) 5)).cell? ⟨g, k, none⟩ = some (byteV b) := (hB1.cell (p := ⟨g, k, none⟩) hg).trans hcell
  have hat : (w.drew.alloc (.cells (bblk (hex2 b)) 5)).heap[w.heap.size]? = some (.cells (bblk (hex2 b)) 5) := alloc_at w.drew _
  obtain ⟨i0, hi, hz0, hz1, hz2⟩ := info_parts Try.inf5
  refine wp_region_held_drew (S := fun (wx : World) => wx.cell? ⟨g, k, none⟩ = some (byteV b)) (by kernel_rfl) hcell (fun hS => ?_)
  refine take_op 0 (some 13) (Op.move (Operand.tmp 5)) (none) (v) gops_sel rfl (by kernel_rfl) (by kernel_rfl) (by rfl) (fun _ hS => rfl) hS ?_
  simp only [Act.put, List.setIfInBounds_toArray, List.set_cons_zero, List.set_cons_succ]
  refine take_op 1 (some 14) (Op.move (Operand.tmp 4)) (none) (d) gops_sel rfl (by kernel_rfl) (by kernel_rfl) (by rfl) (fun _ hS => rfl) hS ?_
  simp only [Act.put, List.setIfInBounds_toArray, List.set_cons_zero, List.set_cons_succ]
  refine take_op 2 (some 15) (Op.move (Operand.tmp 6)) (none) (.int .i64 (k : Int)) gops_sel rfl (by kernel_rfl) (by kernel_rfl) (by rfl) (fun _ hS => rfl) hS ?_
  simp only [Act.put, List.setIfInBounds_toArray, List.set_cons_zero, List.set_cons_succ]
  refine take_op 3 (some 16) (Op.indexAddr 40 (Operand.tmp 3) (Operand.tmp 15)) (none) (.pointer (some ⟨g, k, none⟩)) gops_sel rfl (by kernel_rfl) (by kernel_rfl) (by rfl) (fun _ hS => exec_v (run_place g k hk _)) hS ?_
  simp only [Act.put, List.setIfInBounds_toArray, List.set_cons_zero, List.set_cons_succ]
  refine take_op 4 (some 17) (Op.load 5 (Operand.tmp 16)) (none) (byteV b) gops_sel rfl (by kernel_rfl) (by kernel_rfl) (by rfl) (fun _ hS => exec_v (run_byte g k b _ hS)) hS ?_
  simp only [Act.put, List.setIfInBounds_toArray, List.set_cons_zero, List.set_cons_succ]
  refine take_op 5 (some 18) (Op.binOp BinOp.shr 5 (Operand.tmp 17) (Operand.const (Value.int IntKind.u64 4)) 47) (none) (.int .u8 ((b.toNat / 16 : Nat) : Int)) gops_sel rfl (by kernel_rfl) (by kernel_rfl) (by rfl) (fun _ hS => exec_v (run_hi 17 b _)) hS ?_
  simp only [Act.put, List.setIfInBounds_toArray, List.set_cons_zero, List.set_cons_succ]
  refine take_op 6 (some 19) (Op.index 9 (Operand.tmp 14) (Operand.tmp 18)) (none) (byteV (digit (b.toNat / 16))) gops_sel rfl (by kernel_rfl) (by kernel_rfl) (by rfl) (fun _ hS => exec_v (index_digit_at d _ hd.out (by omega) _)) hS ?_
  simp only [Act.put, List.setIfInBounds_toArray, List.set_cons_zero, List.set_cons_succ]
  refine take_op 7 (some 20) (Op.move (Operand.tmp 4)) (none) (d) gops_sel rfl (by kernel_rfl) (by kernel_rfl) (by rfl) (fun _ hS => rfl) hS ?_
  simp only [Act.put, List.setIfInBounds_toArray, List.set_cons_zero, List.set_cons_succ]
  refine take_op 8 (some 21) (Op.move (Operand.tmp 6)) (none) (.int .i64 (k : Int)) gops_sel rfl (by kernel_rfl) (by kernel_rfl) (by rfl) (fun _ hS => rfl) hS ?_
  simp only [Act.put, List.setIfInBounds_toArray, List.set_cons_zero, List.set_cons_succ]
  refine take_op 9 (some 22) (Op.indexAddr 40 (Operand.tmp 3) (Operand.tmp 21)) (none) (.pointer (some ⟨g, k, none⟩)) gops_sel rfl (by kernel_rfl) (by kernel_rfl) (by rfl) (fun _ hS => exec_v (run_place g k hk _)) hS ?_
  simp only [Act.put, List.setIfInBounds_toArray, List.set_cons_zero, List.set_cons_succ]
  refine take_op 10 (some 23) (Op.load 5 (Operand.tmp 22)) (none) (byteV b) gops_sel rfl (by kernel_rfl) (by kernel_rfl) (by rfl) (fun _ hS => exec_v (run_byte g k b _ hS)) hS ?_
  simp only [Act.put, List.setIfInBounds_toArray, List.set_cons_zero, List.set_cons_succ]
  refine take_op 11 (some 24) (Op.binOp BinOp.and 5 (Operand.tmp 23) (Operand.const (Value.int IntKind.u8 15)) 5) (none) (.int .u8 ((b.toNat % 16 : Nat) : Int)) gops_sel rfl (by kernel_rfl) (by kernel_rfl) (by rfl) (fun _ hS => exec_v (run_lo 23 b _)) hS ?_
  simp only [Act.put, List.setIfInBounds_toArray, List.set_cons_zero, List.set_cons_succ]
  refine take_op 12 (some 25) (Op.index 9 (Operand.tmp 20) (Operand.tmp 24)) (none) (byteV (digit (b.toNat % 16))) gops_sel rfl (by kernel_rfl) (by kernel_rfl) (by rfl) (fun _ hS => exec_v (index_digit_at d _ hd.out (by omega) _)) hS ?_
  simp only [Act.put, List.setIfInBounds_toArray, List.set_cons_zero, List.set_cons_succ]
  refine next_op 13 (some 26) (Op.buildSlice 25 2 #[(0, Operand.tmp 19), (1, Operand.tmp 25)]) (none) (.slice (some ⟨w.heap.size, 0, none⟩) 2 2) (w.drew.alloc (.cells (bblk (hex2 b)) 5)) rfl (by kernel_rfl) (by rfl) (exec_v (run_two_at _ 19 25 _ _ _ rfl rfl)) hS1 ?_
  simp only [Act.put, List.setIfInBounds_toArray, List.set_cons_zero, List.set_cons_succ]
  refine next_wp 14 (some 27) (Op.call { callee := Callee.builtin Builtin.append, args := #[Operand.tmp 13, Operand.tmp 26], argTypes := #[25, 25] }) (none) rfl (by kernel_rfl) (by rfl) (fun K hK => ?_)
  refine wp_append_own _ (.tmp 13) (.tmp 26) 25 rfl base 5 i0 (.int .u8 0) 1 1 Try.underlying25 hi hz0 hz1 hz2 rfl (by decide) v n (x.map byteV) rfl (own_below hown (((Below.refl _ w).drew).alloc (Nat.le_refl _) _)) ⟨w.heap.size, 0, none⟩ 2 2 ((hex2 b).map byteV) rfl rfl ?_ (oneCell_bytes _) (by unfold maxLen; omega) (by omega) (by rw [alloc_size]; exact Nat.le_succ_of_le hbase) ?_
  · intro j u hj
    rw [add_at, Nat.zero_add, cell_of_row _ _ _ _ _ _ hat]
    simpa [bblk] using hj
  intro v' w' hown' hgrow _
  have hB2 : Below base w w' := hB1.grown hgrow (Nat.le_trans hbase hB1.size) (own_lo hown)
  have hS2 : w'.cell? ⟨g, k, none⟩ = some (byteV b) := (hB2.cell (p := ⟨g, k, none⟩) hg).trans hcell
  refine hK _ _ hS2 ?_
  clear hK K
  simp only [Act.put, List.setIfInBounds_toArray, List.set_cons_zero, List.set_cons_succ]
  refine take_op 15 (some 5) (Op.assign (Operand.tmp 27)) (none) (v') gops_sel rfl (by kernel_rfl) (by kernel_rfl) (by rfl) (fun _ hS => rfl) hS2 ?_
  simp only [Act.put, List.setIfInBounds_toArray, List.set_cons_zero, List.set_cons_succ]
  exact wpAnyH_done (by kernel_rfl) (hR.out _ _ (by rw [List.map_append]; exact hown') hB2) _

set_option maxRecDepth 100000 in
set_option maxHeartbeats 1000000 in
theorem hexref_any (A : Option Addr) (n c : Nat) (l : List UInt8) (w : World) (hn : l.length = n) (hs : n ≤ 1000) (hA : A = none → c = 0) (hr : BRead w A l) :
    Calls Try.prog 23 #[.slice A n c] w fun e w' => e = .returned (strOf (Sha.hex l)) ∧ Below w.heap.size w w' := by
  have HN := Lib.hid hn
  have HA := Lib.hid hA
  have HR := Lib.hid hr
  clear hn hr hA
  have HL := Lib.hid (sum_length l)
  have HH : Hid (Sha.hex l = (Sha.sum l).flatMap hex2) := Lib.hid rfl
  obtain ⟨R, hR⟩ : ∃ R, R = Sha.sum l := ⟨_, rfl⟩
  have HRR := Lib.hid hR
  rw [← hR] at HL HH
  clear hR
  have HLB : Hid ((bblk R).size = 32) := Lib.hid (by rw [bblk_size, HL.out])
  go_enter Try.func23, Try.ntmps23
  go_wp2_with (first
    | (go_at_call 29; refine (ref_any A n c l _ HN.out hs HA.out HR.out).mono ?_; rw [← HRR.out]; rintro e w1 ⟨rfl, hb1⟩; have HB1 := Lib.hid hb1; clear hb1)
    | (refine store_block rfl 40 (.tmp 3) (.tmp 8) rfl w1.heap.size 40 (bblk (List.replicate 32 0)) (bblk R) rfl rfl (alloc_at _ _) (by rw [HLB.out]; rfl) (by rw [HLB.out]; kernel_rfl) (bblk_one _) ?_; intro w2 h2 hg2 hs2; rw [alloc_size] at hs2; have HS2 := Lib.hid h2; have HZ2 := Lib.hid hs2; have HB2 := Lib.hid (below_grown (HB1.out.alloc HB1.out.size _) hg2 (by rw [alloc_size]; exact Nat.le_succ_of_le HB1.out.size) HB1.out.size); clear h2 hg2 hs2))
  have HG : Hid (w1.heap.size < w2.heap.size) := Lib.hid (by rw [HZ2.out]; exact Nat.lt_succ_self _)
  generalize w1.heap.size = g at *
  go_loopw [5, 6] (fun v i wx => ∃ k : Nat, k ≤ 32 ∧ i = .int .i64 k ∧ Hid (wx.ownsRow w2.heap.size 5 1 v (2 * k) (((R.take k).flatMap hex2).map byteV)) ∧ Hid (Below w2.heap.size w2 wx)) (fun _ i _ => 32 - (intOf i).toNat)
  case atStart => exact ⟨0, by omega, rfl, Lib.hid (World.ownsRow_nil _ _ _ _), Lib.hid (Below.refl _ _)⟩
  case round =>
    obtain ⟨k, hk, rfl, HO, HB⟩ := hrel
    by_cases hlt : k < 32
    · have HT := Lib.hid (hex_step R k (by have := HL.out; omega))
      have HC := Lib.hid (bblk_cell ((HB.out.block _ HG.out).trans HS2.out) k (by have := HL.out; omega))
      obtain ⟨b, hb⟩ : ∃ b, b = R.getD k 0 := ⟨_, rfl⟩
      rw [← hb] at HC HT
      clear hb
      have HK : Hid (2 * k ≤ 1000) := Lib.hid (by omega)
      have k0 : (0 : Int) ≤ (k : Int) := by omega
      have k1 : (k : Int) < 32 := by omega
      go_wp2
      refine only_end (hexb_region g k (2 * k) w2.heap.size u5 _ ((R.take k).flatMap hex2) b wr (Lib.hid rfl) hlt HK.out HG.out HB.out.size HC.out HO.out (Lib.hid fun v5 w5 ho5 hb5 => ?_))
      have HB5 := Lib.hid (HB.out.trans (hb5))
      have HO5 := Lib.hid ho5
      clear hb5 ho5
      go_wp2
      go_roundw
      case rel => exact ⟨k + 1, by omega, by go_num, Lib.hid (by rw [HT.out]; exact HO5.out), HB5⟩
      case measure => simp [intOf]; omega
    · obtain rfl : k = 32 := by omega
      clear hlt hk
      obtain ⟨A2, c2, e2, hn2, hc2, hl2, hr2⟩ := own_bread HO.out
      rw [List.take_of_length_le (Nat.le_of_eq HL.out), ← HH.out] at hr2 hl2
      subst e2
      have kc : (convert 25 9 (.slice A2 64 c2)).run Try.prog wr = .ok (strOf (Sha.hex l)) wr := run_string_of A2 64 c2 _ wr hl2 hr2
      clear hl2 hr2 hn2 hc2 HO
      rw [show 2 * 32 = 64 from rfl]
      go_wp2
      go_ret
      exact ⟨rfl, HB2.out.trans (HB.out.mono HB2.out.size)⟩

end Go.Proofs.Ytnkbkkbpmjemiaa

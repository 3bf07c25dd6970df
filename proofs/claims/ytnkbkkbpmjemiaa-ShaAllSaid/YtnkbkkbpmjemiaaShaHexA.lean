/- What sha.Hex does: the hash of bytes, written in digits. Conditions: the bytes are read; they are few. The region's steps are printed by gen_hexa.py. -/
import Derived.Test.YtnkbkkbpmjemiaaShaStr
import Derived.Test.YtnkbkkbpmjemiaaShaSum
namespace Go.Proofs.Ytnkbkkbpmjemiaa
open Go.RowKit Sha

noncomputable def hops : Array Oper := (Try.f22.body.bind (regionIn 5)).getD #[]
theorem hops_sel : Region.noSelect hops = true := by kernel_rfl

set_option maxRecDepth 100000 in
set_option maxHeartbeats 1000000 in
theorem hex_region (x : List UInt8) (b : UInt8) (k : Int) (w : World) {R : Act → World → Prop} {v0 v1 v2 v4 v6 v7 v9 v10 v11 v12 v13 v14 v15 v16 v17 v18 v19 v20 v21 v22 : Value} (hx : x.length ≤ 100)
    (hR : Hid (∀ w', Below w.heap.size w w' → R ⟨#[v0, v1, v2, strOf (x ++ hex2 b), v4, .int .u8 (b.toNat : Int), v6, v7, .int .i64 (k : Int), v9, v10, strOf x, .int .u8 (b.toNat : Int), .int .u8 ((b.toNat / 16 : Nat) : Int), byteV (digit (b.toNat / 16)), .int .u8 (b.toNat : Int), .int .u8 ((b.toNat % 16 : Nat) : Int), byteV (digit (b.toNat % 16)), .slice (some ⟨w.heap.size, 0, none⟩) 2 2, strOf (hex2 b), strOf (x ++ hex2 b), v21, v22], []⟩ w')) :
    (Code.region 5 hops true).wp Try.prog (OnlyEnd R) ⟨#[v0, v1, v2, strOf x, v4, .int .u8 (b.toNat : Int), v6, v7, .int .i64 (k : Int), v9, v10, v11, v12, v13, v14, v15, v16, v17, v18, v19, v20, v21, v22], []⟩ w := by
  have hS : True := trivial
  have hd : digit (b.toNat / 16) :: [digit (b.toNat % 16)] = hex2 b := rfl
  have hb := b.toNat_lt
  have hrd : BRead (w.drew.alloc (.cells (bblk (hex2 b)) 5)) (some ⟨w.heap.size, 0, none⟩) (hex2 b) := bread_block (alloc_at w.drew _) 0 _ (by unfold hex2 bblk; rfl)
  have hlt : x.length + (hex2 b).length ≤ 1000000 := by simp [hex2]; omega
  refine wp_region_held_drew (S := fun (_ : World) => True) (by kernel_rfl) trivial (fun _ => ?_)
  refine take_op 0 (some 11) (Op.move (Operand.tmp 3)) (none) (strOf x) hops_sel rfl (by kernel_rfl) (by kernel_rfl) (by rfl) (fun _ _ => rfl) hS ?_
  simp only [Act.put, List.setIfInBounds_toArray, List.set_cons_zero, List.set_cons_succ]
  refine take_op 1 (some 12) (Op.move (Operand.tmp 5)) (none) (.int .u8 (b.toNat : Int)) hops_sel rfl (by kernel_rfl) (by kernel_rfl) (by rfl) (fun _ _ => rfl) hS ?_
  simp only [Act.put, List.setIfInBounds_toArray, List.set_cons_zero, List.set_cons_succ]
  refine take_op 2 (some 13) (Op.binOp BinOp.shr 5 (Operand.tmp 12) (Operand.const (Value.int IntKind.u64 4)) 47) (none) (.int .u8 ((b.toNat / 16 : Nat) : Int)) hops_sel rfl (by kernel_rfl) (by kernel_rfl) (by rfl) (fun _ _ => exec_v (run_hi 12 b _)) hS ?_
  simp only [Act.put, List.setIfInBounds_toArray, List.set_cons_zero, List.set_cons_succ]
  refine take_op 3 (some 14) (Op.index 9 (Operand.const (Value.string ⟨#[48, 49, 50, 51, 52, 53, 54, 55, 56, 57, 97, 98, 99, 100, 101, 102]⟩)) (Operand.tmp 13)) (none) (byteV (digit (b.toNat / 16))) hops_sel rfl (by kernel_rfl) (by kernel_rfl) (by rfl) (fun _ _ => exec_v (index_digit _ (by omega) _)) hS ?_
  simp only [Act.put, List.setIfInBounds_toArray, List.set_cons_zero, List.set_cons_succ]
  refine take_op 4 (some 15) (Op.move (Operand.tmp 5)) (none) (.int .u8 (b.toNat : Int)) hops_sel rfl (by kernel_rfl) (by kernel_rfl) (by rfl) (fun _ _ => rfl) hS ?_
  simp only [Act.put, List.setIfInBounds_toArray, List.set_cons_zero, List.set_cons_succ]
  refine take_op 5 (some 16) (Op.binOp BinOp.and 5 (Operand.tmp 15) (Operand.const (Value.int IntKind.u8 15)) 5) (none) (.int .u8 ((b.toNat % 16 : Nat) : Int)) hops_sel rfl (by kernel_rfl) (by kernel_rfl) (by rfl) (fun _ _ => exec_v (run_lo 15 b _)) hS ?_
  simp only [Act.put, List.setIfInBounds_toArray, List.set_cons_zero, List.set_cons_succ]
  refine take_op 6 (some 17) (Op.index 9 (Operand.const (Value.string ⟨#[48, 49, 50, 51, 52, 53, 54, 55, 56, 57, 97, 98, 99, 100, 101, 102]⟩)) (Operand.tmp 16)) (none) (byteV (digit (b.toNat % 16))) hops_sel rfl (by kernel_rfl) (by kernel_rfl) (by rfl) (fun _ _ => exec_v (index_digit _ (by omega) _)) hS ?_
  simp only [Act.put, List.setIfInBounds_toArray, List.set_cons_zero, List.set_cons_succ]
  refine next_op 7 (some 18) (Op.buildSlice 25 2 #[(0, Operand.tmp 14), (1, Operand.tmp 17)]) (none) (.slice (some ⟨w.heap.size, 0, none⟩) 2 2) (w.drew.alloc (.cells (bblk (hex2 b)) 5)) rfl (by kernel_rfl) (by rfl) (exec_v (run_two_at _ 14 17 _ _ _ rfl rfl)) hS ?_
  simp only [Act.put, List.setIfInBounds_toArray, List.set_cons_zero, List.set_cons_succ]
  refine next_op 8 (some 19) (Op.convert 25 9 (Operand.tmp 18)) (none) (strOf (hex2 b)) _ rfl (by kernel_rfl) (by rfl) (exec_v (run_string_of _ 2 2 _ _ rfl hrd)) hS ?_
  simp only [Act.put, List.setIfInBounds_toArray, List.set_cons_zero, List.set_cons_succ]
  refine take_op 9 (some 20) (Op.binOp BinOp.add 9 (Operand.tmp 11) (Operand.tmp 19) 9) (none) (strOf (x ++ hex2 b)) hops_sel rfl (by kernel_rfl) (by kernel_rfl) (by rfl) (fun _ _ => exec_v (run_join _ _ _ hlt)) hS ?_
  simp only [Act.put, List.setIfInBounds_toArray, List.set_cons_zero, List.set_cons_succ]
  refine take_op 10 (some 3) (Op.assign (Operand.tmp 20)) (none) (strOf (x ++ hex2 b)) hops_sel rfl (by kernel_rfl) (by kernel_rfl) (by rfl) (fun _ _ => rfl) hS ?_
  simp only [Act.put, List.setIfInBounds_toArray, List.set_cons_zero, List.set_cons_succ]
  exact wpAnyH_done (by kernel_rfl) (hR.out _ (((Below.refl _ _).drew).alloc (Nat.le_refl _) _)) _

set_option maxRecDepth 100000 in
set_option maxHeartbeats 1000000 in
theorem hex_any (A : Option Addr) (n c : Nat) (l : List UInt8) (w : World) (hn : l.length = n) (hs : n ≤ 1000) (hA : A = none → c = 0) (hr : BRead w A l) :
    Calls Try.prog 22 #[.slice A n c] w fun e w' => e = .returned (strOf (Sha.hex l)) ∧ Below w.heap.size w w' := by
  have HN := Lib.hid hn
  have HA := Lib.hid hA
  have HR := Lib.hid hr
  clear hn hr hA
  have HL := Lib.hid (sum_length l)
  go_enter Try.func22, Try.ntmps22
  go_wp2_with (go_at_call 20; refine (sum_any A n c l _ HN.out hs HA.out HR.out).mono ?_; rintro e w1 ⟨rfl, hb1⟩; have HB1 := Lib.hid hb1; clear hb1)
  have HH : Hid (Sha.hex l = (Sha.sum l).flatMap hex2) := Lib.hid rfl
  obtain ⟨R, hR⟩ : ∃ R, R = Sha.sum l := ⟨_, rfl⟩
  rw [← hR] at HL HH ⊢
  clear hR
  go_loopw [3, 8] (fun v i wx => ∃ k : Nat, k ≤ 32 ∧ i = .int .i64 k ∧ v = strOf ((R.take k).flatMap hex2) ∧ Hid (Below w.heap.size w wx)) (fun _ i _ => 32 - (intOf i).toNat)
  case atStart => exact ⟨0, by omega, rfl, rfl, HB1⟩
  case round =>
    clear HB1
    obtain ⟨k, hk, rfl, rfl, HB⟩ := hrel
    by_cases hlt : k < 32
    · have hix := index_bytes R HL.out k hlt
      have HT := Lib.hid (hex_step R k (by have := HL.out; omega))
      have HX : Hid (((R.take k).flatMap hex2).length ≤ 100) := Lib.hid (by rw [flat2_length, List.length_take]; omega)
      obtain ⟨b, hb⟩ : ∃ b, b = R.getD k 0 := ⟨_, rfl⟩
      rw [← hb] at hix HT
      clear hb
      generalize (R.take k).flatMap hex2 = x at HT HX ⊢
      unfold byteV at hix
      have k0 : (0 : Int) ≤ (k : Int) := by omega
      have k1 : (k : Int) < 32 := by omega
      go_wp2
      refine only_end (hex_region x b (k : Int) wr HX.out (Lib.hid fun w5 hb5 => ?_))
      have HB5 := Lib.hid (HB.out.trans (hb5.mono HB.out.size))
      clear hb5
      go_wp2
      go_roundw
      case rel => exact ⟨k + 1, by omega, by go_num, by rw [HT.out], HB5⟩
      case measure => simp [intOf]; omega
    · obtain rfl : k = 32 := by omega
      clear hlt hk
      have HE : Hid ((R.take 32).flatMap hex2 = Sha.hex l) := Lib.hid (by rw [HH.out, List.take_of_length_le (Nat.le_of_eq HL.out)])
      rw [HE.out]
      go_wp2
      go_ret
      exact ⟨rfl, HB.out⟩

end Go.Proofs.Ytnkbkkbpmjemiaa

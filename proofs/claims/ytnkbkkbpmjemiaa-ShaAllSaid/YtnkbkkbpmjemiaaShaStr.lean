/- Strings as lists of bytes: made of bytes, made into bytes, joined, compared; the hash's digits; a drawn region taken operation by operation. No condition but those that each law names. -/
import Derived.Test.YtnkbkkbpmjemiaaShaPad
import Derived.Deep.RegionHeld3
import Derived.ChangeKeysEq
import Derived.Laws.IdiomStrings
import Derived.Lib.ConvBytes
import Derived.Lib.SlBytesConst
namespace Go.Proofs.Ytnkbkkbpmjemiaa
open Go.RowKit Sha

def strOf (l : List UInt8) : Value := .string ⟨l.toArray⟩
/-- Bytes read become a string. -/
theorem run_string_of (A : Option Addr) (n c : Nat) (l : List UInt8) (w : World) (hl : l.length = n) (hr : BRead w A l) : (convert 25 9 (.slice A n c)).run Try.prog w = .ok (strOf l) w := by
  cases A with
  | none =>
    have h0 : l = [] := by
      cases l with
      | nil => rfl
      | cons y l' => obtain ⟨_, hh, _⟩ := hr 0 (by simp); cases hh
    subst h0
    rw [run_convert_bytes_nil w 25 5 Try.underlying25 Try.underlying5 n c 9 Try.underlying9]
    rfl
  | some ad =>
    subst hl
    refine run_convert_bytes_back w 25 9 5 ad c l Try.underlying25 Try.underlying5 Try.underlying9 fun j hj => ?_
    obtain ⟨ad', e, hc⟩ := hr j hj
    cases e
    rw [hc, getD_eq l j 0 hj]
theorem run_join (x y : List UInt8) (w : World) (h : x.length + y.length ≤ 1000000) : (binOp .add 9 (strOf x) (strOf y)).run Try.prog w = .ok (strOf (x ++ y)) w := by
  have h1 : ¬ ((((⟨x.toArray⟩ : ByteArray).size + (⟨y.toArray⟩ : ByteArray).size : Nat) : Int) > IntKind.i64.max) := by
    have e : IntKind.i64.max = 9223372036854775807 := by decide +kernel
    rw [e]
    simp only [ByteArray.size, List.size_toArray]
    omega
  have h2 : (⟨x.toArray⟩ : ByteArray) ++ (⟨y.toArray⟩ : ByteArray) = ⟨(x ++ y).toArray⟩ := by
    apply ByteArray.ext
    rw [ByteArray.data_append]
    simp
  unfold strOf binOp
  simp only [Op.stringOp]
  rw [if_neg h1, h2]
  rfl
theorem run_same (x : List UInt8) (w : World) : (binOp .eql 9 (strOf x) (strOf x)).run Try.prog w = .ok (.bool true) w := by
  unfold strOf binOp
  simp [Op.stringOp]

def digits : ByteArray := ⟨#[48, 49, 50, 51, 52, 53, 54, 55, 56, 57, 97, 98, 99, 100, 101, 102]⟩
theorem index_digit (n : Nat) (h : n < 16) (w : World) : (Instr.index 9 (.string digits) (.int .u8 (n : Int))).run Try.prog w = .ok (byteV (digit n)) w := by
  match n, h with
  | 0, _ => (show _ = _; kernel_rfl)
  | 1, _ => (show _ = _; kernel_rfl)
  | 2, _ => (show _ = _; kernel_rfl)
  | 3, _ => (show _ = _; kernel_rfl)
  | 4, _ => (show _ = _; kernel_rfl)
  | 5, _ => (show _ = _; kernel_rfl)
  | 6, _ => (show _ = _; kernel_rfl)
  | 7, _ => (show _ = _; kernel_rfl)
  | 8, _ => (show _ = _; kernel_rfl)
  | 9, _ => (show _ = _; kernel_rfl)
  | 10, _ => (show _ = _; kernel_rfl)
  | 11, _ => (show _ = _; kernel_rfl)
  | 12, _ => (show _ = _; kernel_rfl)
  | 13, _ => (show _ = _; kernel_rfl)
  | 14, _ => (show _ = _; kernel_rfl)
  | 15, _ => (show _ = _; kernel_rfl)
  | n + 16, h => exact absurd h (by omega)
theorem and15 (b : UInt8) : bits .and .u8 (b.toNat : Int) 15 = ((b.toNat % 16 : Nat) : Int) := by
  have h : ∀ n : Nat, n < 256 → bits .and .u8 (n : Int) 15 = ((n % 16 : Nat) : Int) := by decide +kernel
  exact h b.toNat b.toNat_lt
theorem index_bytes (R : List UInt8) (hR : R.length = 32) (k : Nat) (hk : k < 32) (w : World) : (Instr.index 40 (.agg (bblk R)) (.int .i64 (k : Int))).run Try.prog w = .ok (byteV (R.getD k 0)) w := by
  have hg := bblk_get R k (by omega)
  obtain ⟨i0, hi, hz0, hz1, hz2⟩ := info_parts Try.inf5
  have hp := run_part_plain (P := Try.prog) (w := w) (e := 5) (by kernel_rfl) hg
  have hlt : (k : Int) < 32 := by omega
  simp only [Instr.index, asIntOf, Sem.run_bind, Sem.run_pure, Result.andThen_ok, run_underlying Try.underlying40]
  simp [hlt, sizeOf, typeInfo, hi, hz1, hp]

/-! ### a drawn region, operation by operation -/
/-- Only the way out at the end. -/
def OnlyEnd (R : Act → World → Prop) : Exit → Act → World → Prop
  | .normal, a, w => R a w
  | _, _, _ => False
theorem OnlyEnd.imp {R : Act → World → Prop} {Q : Exit → Act → World → Prop} (h : ∀ a w, R a w → Q .normal a w) : ∀ (e : Exit) (a : Act) (w : World), OnlyEnd R e a w → Q e a w := fun e a w k => by
  cases e <;> first | exact h _ _ k | exact (k : False).elim
theorem only_end {c : Code} {Q : Exit → Act → World → Prop} {a : Act} {w : World} (h : c.wp Try.prog (OnlyEnd (Q .normal)) a w) : c.wp Try.prog Q a w := Code.wp_mono (OnlyEnd.imp (fun _ _ h => h)) h
/-- The operations of region n of a body. -/
def regionIn (n : Nat) : Code → Option (Array Oper)
  | .region id ops _ => match Nat.beq id n with | true => some ops | false => none
  | .seq a b => match regionIn n a with | some x => some x | none => regionIn n b
  | .cond _ a b => match regionIn n a with | some x => some x | none => regionIn n b
  | .block _ a => regionIn n a
  | .loop a => regionIn n a
  | _ => none
section
variable {ops : Array Oper} {S : World → Prop} {R : Act → World → Prop} {fuel : Nat} {listed : Array Bool} {a : Act} {w : World}
/-- One operation that yields a value wherever S holds is taken. -/
theorem take_op (i : Nat) (dst : Option Tmp) (op : Op) (gd : Option (Nat × Bool)) {ty : TypeId} {pos : String} {after : Array Edge} (v : Value) (hsel : Region.noSelect ops = true) (hi : ops[i]? = some ⟨dst, op, ty, pos, after, gd⟩) (hf : Region.free .any ops listed i = true) (hr : (Region.ready .any ops listed).contains i = true)
    (hw : Region.wanted ⟨dst, op, ty, pos, after, gd⟩ (yielded ops a.tmps) = true) (hy : ∀ w, S w → (execOp a.eval ⟨dst, op, ty, pos, after, gd⟩).run Try.prog w = .ok (.value v) w) (hS : S w)
    (h : wpAnyH Try.prog .any ops (OnlyEnd R) S fuel (listed.setIfInBounds i true) (a.put dst v) w) : wpAnyH Try.prog .any ops (OnlyEnd R) S (fuel + 1) listed a w :=
  wpAnyH_take hi hsel hf hr (fun _ _ _ h => h) (Or.inl ⟨hw, hy⟩) hS h
/-- The one operation that can come next, which yields a value and a new world. -/
theorem next_op (i : Nat) (dst : Option Tmp) (op : Op) (gd : Option (Nat × Bool)) {ty : TypeId} {pos : String} {after : Array Edge} (v : Value) (w' : World) (hi : ops[i]? = some ⟨dst, op, ty, pos, after, gd⟩) (hr : Region.ready .any ops listed = [i])
    (hw : Region.wanted ⟨dst, op, ty, pos, after, gd⟩ (yielded ops a.tmps) = true) (hy : (execOp a.eval ⟨dst, op, ty, pos, after, gd⟩).run Try.prog w = .ok (.value v) w') (hS : S w')
    (h : wpAnyH Try.prog .any ops (OnlyEnd R) S fuel (listed.setIfInBounds i true) (a.put dst v) w') : wpAnyH Try.prog .any ops (OnlyEnd R) S (fuel + 1) listed a w := by
  refine wpAnyH_ready hr (by simp) (AllReadyH.cons hi (fun K hK => ?_) AllReadyH.nil)
  rw [if_pos hw]
  unfold Oper.wp
  rw [hy]
  exact hK _ _ hS (fun _ => h)
/-- The one operation that can come next, a call by its contract. -/
theorem next_call (i : Nat) (dst : Option Tmp) (op : Op) (gd : Option (Nat × Bool)) {ty : TypeId} {pos : String} {after : Array Edge} (f : Nat) (args : Array Value) (v : Value) (w' : World) (F : World → Prop) (hi : ops[i]? = some ⟨dst, op, ty, pos, after, gd⟩) (hr : Region.ready .any ops listed = [i])
    (hw : Region.wanted ⟨dst, op, ty, pos, after, gd⟩ (yielded ops a.tmps) = true) (hy : (execOp a.eval ⟨dst, op, ty, pos, after, gd⟩).run Try.prog w = .ok (.enter f args) w') (hc : Calls Try.prog f args w' fun e w'' => e = .returned v ∧ F w'') (hS : ∀ w'', F w'' → S w'')
    (h : ∀ w'', F w'' → S w'' → wpAnyH Try.prog .any ops (OnlyEnd R) S fuel (listed.setIfInBounds i true) (a.put dst v) w'') : wpAnyH Try.prog .any ops (OnlyEnd R) S (fuel + 1) listed a w := by
  refine wpAnyH_ready hr (by simp) (AllReadyH.cons hi (fun K hK => ?_) AllReadyH.nil)
  rw [if_pos hw]
  unfold Oper.wp
  rw [hy]
  refine Calls.mono hc fun e w'' he => ?_
  obtain ⟨rfl, hF⟩ := he
  exact hK _ _ (hS _ hF) (fun hs => h _ hF hs)
/-- The one operation that can come next, by a law of its own. -/
theorem next_wp (i : Nat) (dst : Option Tmp) (op : Op) (gd : Option (Nat × Bool)) {ty : TypeId} {pos : String} {after : Array Edge} (hi : ops[i]? = some ⟨dst, op, ty, pos, after, gd⟩) (hr : Region.ready .any ops listed = [i])
    (hw : Region.wanted ⟨dst, op, ty, pos, after, gd⟩ (yielded ops a.tmps) = true)
    (h : ∀ K : Act → World → Prop, (∀ a w, S w → wpAnyH Try.prog .any ops (OnlyEnd R) S fuel (listed.setIfInBounds i true) a w → K a w) → Oper.wp Try.prog ⟨dst, op, ty, pos, after, gd⟩ a w K (OnlyEnd R)) : wpAnyH Try.prog .any ops (OnlyEnd R) S (fuel + 1) listed a w := by
  refine wpAnyH_ready hr (by simp) (AllReadyH.cons hi (fun K hK => ?_) AllReadyH.nil)
  rw [if_pos hw]
  exact h K fun a w hS hW => hK a w hS (fun _ => hW)
/-- What is known of the world may grow. -/
theorem anyH_mono {S' : World → Prop} (hS : ∀ w, S' w → S w) :
    ∀ (fuel : Nat) (listed : Array Bool) (a : Act) (w : World), wpAnyH Try.prog .any ops (OnlyEnd R) S' fuel listed a w → wpAnyH Try.prog .any ops (OnlyEnd R) S fuel listed a w
  | 0, _, _, _, h => h
  | fuel + 1, _, _, _, h => ⟨h.1, fun i hi => wpOp_mono (fun _ _ h' => ⟨hS _ h'.1, anyH_mono hS fuel _ _ _ h'.2⟩) (h.2 i hi)⟩
end

/-! ### single operations -/
theorem exec_v {s : Sem Value} {v : Value} {w w' : World} (h : s.run Try.prog w = .ok v w') : (do pure (Next.value (← s)) : Sem Next).run Try.prog w = .ok (.value v) w' := by
  simp [h]
theorem run_hi (x : Nat) (b : UInt8) (w : World) : (do eqGuard .shr 5 (.tmp x) (.const (.int .u64 4)) (.int .u8 (b.toNat : Int)) (.int .u64 4); binOp .shr 5 (.int .u8 (b.toNat : Int)) (.int .u64 4)).run Try.prog w = .ok (.int .u8 ((b.toNat / 16 : Nat) : Int)) w := by
  have h0 := b.toNat_lt
  go_simp
  try omega
theorem run_lo (x : Nat) (b : UInt8) (w : World) : (do eqGuard .and 5 (.tmp x) (.const (.int .u8 15)) (.int .u8 (b.toNat : Int)) (.int .u8 15); binOp .and 5 (.int .u8 (b.toNat : Int)) (.int .u8 15)).run Try.prog w = .ok (.int .u8 ((b.toNat % 16 : Nat) : Int)) w := by
  have h0 := and15 b
  go_simp
theorem run_two (x y : UInt8) (w : World) : (Instr.buildSlice 25 2 #[(0, byteV x), (1, byteV y)]).run Try.prog w = .ok (.slice (some ⟨w.heap.size, 0, none⟩) 2 2) (w.alloc (.cells (bblk [x, y]) 5)) := by
  obtain ⟨i0, hi, hz0, hz1, hz2⟩ := info_parts Try.inf5
  unfold byteV bblk
  go_simp
  rfl
theorem run_two_at (ρ : Operand → Value) (i j : Nat) (x y : UInt8) (w : World) (hx : ρ (.tmp i) = byteV x) (hy : ρ (.tmp j) = byteV y) : (Instr.buildSlice 25 2 (#[(0, Operand.tmp i), (1, Operand.tmp j)].map fun (n, o) => (n, ρ o))).run Try.prog w = .ok (.slice (some ⟨w.heap.size, 0, none⟩) 2 2) (w.alloc (.cells (bblk [x, y]) 5)) := by
  rw [← run_two x y w]
  simp [hx, hy]
theorem run_place (g k : Nat) (h : k < 32) (w : World) : (Instr.indexAt 40 (.pointer (some ⟨g, 0, none⟩)) (.int .i64 (k : Int))).run Try.prog w = .ok (.pointer (some ⟨g, k, none⟩)) w := by
  obtain ⟨i0, hi, hz0, hz1, hz2⟩ := info_parts Try.inf5
  have h2 := add_at g 0 k
  rw [Nat.zero_add] at h2
  simp [Instr.indexAt, asIntOf, Instr.sureAddr, run_underlying Try.underlying40, sizeOf, typeInfo, hi, hz1, h2]
  intro h3
  exact absurd h3 (by omega)
theorem run_byte (g k : Nat) (b : UInt8) (w : World) (h : w.cell? ⟨g, k, none⟩ = some (byteV b)) : (Instr.loadAt 5 (.pointer (some ⟨g, k, none⟩))).run Try.prog w = .ok (byteV b) w := by
  obtain ⟨i0, hi, hz0, hz1, hz2⟩ := info_parts Try.inf5
  unfold byteV at h ⊢
  go_simp

theorem hex2_length (c : UInt8) : (hex2 c).length = 2 := rfl
theorem flat2_length (R : List UInt8) : (R.flatMap hex2).length = 2 * R.length := by
  induction R with
  | nil => rfl
  | cons y R ih => rw [List.flatMap_cons, List.length_append, ih, hex2_length, List.length_cons]; omega
theorem hex_step (R : List UInt8) (k : Nat) (h : k < R.length) : (R.take (k + 1)).flatMap hex2 = (R.take k).flatMap hex2 ++ hex2 (R.getD k 0) := by
  rw [take_snoc R k 0 h, List.flatMap_append]; simp

end Go.Proofs.Ytnkbkkbpmjemiaa

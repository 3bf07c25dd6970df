/- The drawn statement of the law ShaAll: whatever order Go picks, the hashes are the same. Conditions: the bytes are read; they are few. The steps are printed by gen_all.py. -/
import Derived.Test.YtnkbkkbpmjemiaaShaCalls
namespace Go.Proofs.Ytnkbkkbpmjemiaa
open Go.RowKit Sha

/-- The one operation that can come next, a call by its contract. -/
theorem next_call2 {ops : Array Oper} {S : World → Prop} {R : Act → World → Prop} {fuel : Nat} {listed : Array Bool} {a : Act} {w : World} (i : Nat) (dst : Option Tmp) (op : Op) (gd : Option (Nat × Bool)) {ty : TypeId} {pos : String} {after : Array Edge} (f : Nat) (args : Array Value) (w' : World) {F : Ending → World → Prop} (hi : ops[i]? = some ⟨dst, op, ty, pos, after, gd⟩) (hr : Region.ready .any ops listed = [i])
    (hw : Region.wanted ⟨dst, op, ty, pos, after, gd⟩ (yielded ops a.tmps) = true) (hy : (execOp a.eval ⟨dst, op, ty, pos, after, gd⟩).run Try.prog w = .ok (.enter f args) w') (hc : Calls Try.prog f args w' F)
    (h : ∀ e w'', F e w'' → ∃ v, e = .returned v ∧ S w'' ∧ wpAnyH Try.prog .any ops (OnlyEnd R) S fuel (listed.setIfInBounds i true) (a.put dst v) w'') : wpAnyH Try.prog .any ops (OnlyEnd R) S (fuel + 1) listed a w := by
  refine wpAnyH_ready hr (by simp) (AllReadyH.cons hi (fun K hK => ?_) AllReadyH.nil)
  rw [if_pos hw]
  unfold Oper.wp
  rw [hy]
  refine Calls.mono hc fun e w'' he => ?_
  obtain ⟨v, rfl, hS, hW⟩ := h e w'' he
  exact hK _ _ hS (fun _ => hW)

noncomputable def aops : Array Oper := (Try.f7.body.bind (regionIn 13)).getD #[]
theorem aops_sel : Region.noSelect aops = true := by kernel_rfl
theorem exec_equal (x y : Nat) (l : List UInt8) (w : World) : (do eqGuard .eql 9 (.tmp x) (.tmp y) (strOf l) (strOf l); binOp .eql 9 (strOf l) (strOf l) : Sem Value).run Try.prog w = .ok (.bool true) w := by
  simp [guard_str, run_same]
theorem run_whole (g : Nat) (w : World) : (Instr.sliceAt 40 (.pointer (some ⟨g, 0, none⟩)) none none none).run Try.prog w = .ok (.slice (some ⟨g, 0, none⟩) 32 32) w := by
  go_simp
theorem exec_21 (a : Act) (i : Nat) (v : Value) (w : World) (h : a.eval (.tmp i) = v) : (do let d ← resolve a.eval { callee := .value (.func 21), args := #[.tmp i], argTypes := #[25] } 25; invoke d.target d.args).run Try.prog w = .ok (.enter 21 #[v]) w := by
  subst h
  go_simp
theorem exec_22 (a : Act) (i : Nat) (v : Value) (w : World) (h : a.eval (.tmp i) = v) : (do let d ← resolve a.eval { callee := .value (.func 22), args := #[.tmp i], argTypes := #[25] } 9; invoke d.target d.args).run Try.prog w = .ok (.enter 22 #[v]) w := by
  subst h
  go_simp
theorem exec_23 (a : Act) (i : Nat) (v : Value) (w : World) (h : a.eval (.tmp i) = v) : (do let d ← resolve a.eval { callee := .value (.func 23), args := #[.tmp i], argTypes := #[25] } 9; invoke d.target d.args).run Try.prog w = .ok (.enter 23 #[v]) w := by
  subst h
  go_simp

set_option maxRecDepth 100000 in
set_option maxHeartbeats 2000000 in
theorem all_region (A : Option Addr) (n c g : Nat) (l : List UInt8) (w : World) {R : Act → World → Prop} {v1 v2 v3 v4 v6 v7 v9 v10 v11 v12 v13 v14 v15 v16 v17 v18 v19 v20 v21 v22 v23 v24 v25 v26 v27 v28 v29 v30 v31 v32 v33 v34 v35 v36 v37 v38 v39 v40 v41 v42 v43 v44 v45 v46 v47 v48 v49 v50 v51 v52 v53 v54 v55 v56 v57 v58 v59 v60 : Value} (hn : l.length = n) (hs : n ≤ 1000) (hA : A = none → c = 0) (hr : BRead w A l) (hg : BRead w (some ⟨g, 0, none⟩) (Sha.sum l))
    (hR : Hid (∀ x50 w', Below w.heap.size w w' → R ⟨#[.slice A n c, v1, v2, v3, .bool true, .bool true, v6, v7, .pointer (some ⟨g, 0, none⟩), v9, v10, v11, v12, v13, v14, v15, v16, v17, v18, v19, v20, v21, v22, v23, v24, v25, v26, v27, v28, v29, v30, v31, v32, v33, v34, v35, v36, v37, v38, v39, v40, v41, v42, v43, v44, .bool true, .bool true, .slice (some ⟨g, 0, none⟩) 32 32, strOf (Sha.sum l), .slice A n c, x50, strOf (Sha.sum l), .bool true, .bool true, .bool true, .slice A n c, strOf (Sha.hex l), .slice A n c, strOf (Sha.hex l), .bool true, .bool true], []⟩ w')) :
    (Code.region 13 aops true).wp Try.prog (OnlyEnd R) ⟨#[.slice A n c, v1, v2, v3, v4, .bool true, v6, v7, .pointer (some ⟨g, 0, none⟩), v9, v10, v11, v12, v13, v14, v15, v16, v17, v18, v19, v20, v21, v22, v23, v24, v25, v26, v27, v28, v29, v30, v31, v32, v33, v34, v35, v36, v37, v38, v39, v40, v41, v42, v43, v44, v45, v46, v47, v48, v49, v50, v51, v52, v53, v54, v55, v56, v57, v58, v59, v60], []⟩ w := by
  have hl := sum_length l
  have hb0 : Below w.heap.size w w.drew := (Below.refl _ w).drew
  refine wp_region_held_drew (S := fun (wx : World) => BRead wx (some ⟨g, 0, none⟩) (Sha.sum l)) (by kernel_rfl) hg (fun hS => ?_)
  refine take_op 0 (some 45) (Op.move (Operand.tmp 5)) (none) (.bool true) aops_sel rfl (by kernel_rfl) (by kernel_rfl) (by rfl) (fun _ hS => rfl) hS ?_
  simp only [Act.put, List.setIfInBounds_toArray, List.set_cons_zero, List.set_cons_succ]
  refine take_op 1 (some 46) (Op.move (Operand.tmp 45)) (none) (.bool true) aops_sel rfl (by kernel_rfl) (by kernel_rfl) (by rfl) (fun _ hS => rfl) hS ?_
  simp only [Act.put, List.setIfInBounds_toArray, List.set_cons_zero, List.set_cons_succ]
  refine take_op 2 (some 47) (Op.slice 40 (Operand.tmp 8) none none none) (some (1, true)) (.slice (some ⟨g, 0, none⟩) 32 32) aops_sel rfl (by kernel_rfl) (by kernel_rfl) (by rfl) (fun _ hS => exec_v (run_whole g _)) hS ?_
  simp only [Act.put, List.setIfInBounds_toArray, List.set_cons_zero, List.set_cons_succ]
  refine take_op 3 (some 48) (Op.convert 25 9 (Operand.tmp 47)) (some (1, true)) (strOf (Sha.sum l)) aops_sel rfl (by kernel_rfl) (by kernel_rfl) (by rfl) (fun _ hS => exec_v (run_string_of _ 32 32 _ _ hl hS)) hS ?_
  simp only [Act.put, List.setIfInBounds_toArray, List.set_cons_zero, List.set_cons_succ]
  refine take_op 4 (some 49) (Op.move (Operand.tmp 0)) (some (1, true)) (.slice A n c) aops_sel rfl (by kernel_rfl) (by kernel_rfl) (by rfl) (fun _ hS => rfl) hS ?_
  simp only [Act.put, List.setIfInBounds_toArray, List.set_cons_zero, List.set_cons_succ]
  refine next_call2 5 (some 50) (Op.call { callee := Callee.value (Operand.func 21), args := #[Operand.tmp 49], argTypes := #[25] }) (some (1, true)) 21 _ w.drew rfl (by kernel_rfl) (by rfl) (exec_21 _ 49 _ _ rfl) (hash_any A n c l _ hn hs hA (hr.below hb0)) (fun e w1 he => ?_)
  obtain ⟨g1, rfl, hr1, hb1⟩ := he
  replace hb1 : Below w.heap.size w w1 := hb0.trans (hb1.mono hb0.size)
  have hS1 := hg.below hb1
  refine ⟨_, rfl, hS1, ?_⟩
  simp only [Act.put, List.setIfInBounds_toArray, List.set_cons_zero, List.set_cons_succ]
  refine next_op 6 (some 51) (Op.convert 25 9 (Operand.tmp 50)) (some (1, true)) (strOf (Sha.sum l)) w1 rfl (by kernel_rfl) (by rfl) (exec_v (run_string_of _ 32 32 _ _ hl hr1)) hS1 ?_
  simp only [Act.put, List.setIfInBounds_toArray, List.set_cons_zero, List.set_cons_succ]
  refine take_op 7 (some 52) (Op.binOp BinOp.eql 9 (Operand.tmp 48) (Operand.tmp 51) 9) (some (1, true)) (.bool true) aops_sel rfl (by kernel_rfl) (by kernel_rfl) (by rfl) (fun _ hS => exec_v (exec_equal 48 51 _ _)) hS1 ?_
  simp only [Act.put, List.setIfInBounds_toArray, List.set_cons_zero, List.set_cons_succ]
  refine take_op 8 (some 53) (Op.pick (Operand.tmp 46) (Operand.tmp 52) (Operand.const (Value.bool false))) (none) (.bool true) aops_sel rfl (by kernel_rfl) (by kernel_rfl) (by rfl) (fun _ hS => rfl) hS1 ?_
  simp only [Act.put, List.setIfInBounds_toArray, List.set_cons_zero, List.set_cons_succ]
  refine take_op 9 (some 54) (Op.move (Operand.tmp 53)) (none) (.bool true) aops_sel rfl (by kernel_rfl) (by kernel_rfl) (by rfl) (fun _ hS => rfl) hS1 ?_
  simp only [Act.put, List.setIfInBounds_toArray, List.set_cons_zero, List.set_cons_succ]
  refine take_op 10 (some 55) (Op.move (Operand.tmp 0)) (some (9, true)) (.slice A n c) aops_sel rfl (by kernel_rfl) (by kernel_rfl) (by rfl) (fun _ hS => rfl) hS1 ?_
  simp only [Act.put, List.setIfInBounds_toArray, List.set_cons_zero, List.set_cons_succ]
  refine take_op 12 (some 57) (Op.move (Operand.tmp 0)) (some (9, true)) (.slice A n c) aops_sel rfl (by kernel_rfl) (by kernel_rfl) (by rfl) (fun _ hS => rfl) hS1 ?_
  simp only [Act.put, List.setIfInBounds_toArray, List.set_cons_zero, List.set_cons_succ]
  refine next_call2 11 (some 56) (Op.call { callee := Callee.value (Operand.func 22), args := #[Operand.tmp 55], argTypes := #[25] }) (some (9, true)) 22 _ w1 rfl (by kernel_rfl) (by rfl) (exec_22 _ 55 _ _ rfl) (hex_any A n c l _ hn hs hA (hr.below hb1)) (fun e w2 he => ?_)
  obtain ⟨rfl, hb2⟩ := he
  replace hb2 : Below w.heap.size w w2 := hb1.trans (hb2.mono hb1.size)
  have hS2 := hg.below hb2
  refine ⟨_, rfl, hS2, ?_⟩
  simp only [Act.put, List.setIfInBounds_toArray, List.set_cons_zero, List.set_cons_succ]
  refine next_call2 13 (some 58) (Op.call { callee := Callee.value (Operand.func 23), args := #[Operand.tmp 57], argTypes := #[25] }) (some (9, true)) 23 _ w2 rfl (by kernel_rfl) (by rfl) (exec_23 _ 57 _ _ rfl) (hexref_any A n c l _ hn hs hA (hr.below hb2)) (fun e w3 he => ?_)
  obtain ⟨rfl, hb3⟩ := he
  replace hb3 : Below w.heap.size w w3 := hb2.trans (hb3.mono hb2.size)
  have hS3 := hg.below hb3
  refine ⟨_, rfl, hS3, ?_⟩
  simp only [Act.put, List.setIfInBounds_toArray, List.set_cons_zero, List.set_cons_succ]
  refine take_op 14 (some 59) (Op.binOp BinOp.eql 9 (Operand.tmp 56) (Operand.tmp 58) 9) (some (9, true)) (.bool true) aops_sel rfl (by kernel_rfl) (by kernel_rfl) (by rfl) (fun _ hS => exec_v (exec_equal 56 58 _ _)) hS3 ?_
  simp only [Act.put, List.setIfInBounds_toArray, List.set_cons_zero, List.set_cons_succ]
  refine take_op 15 (some 60) (Op.pick (Operand.tmp 54) (Operand.tmp 59) (Operand.const (Value.bool false))) (none) (.bool true) aops_sel rfl (by kernel_rfl) (by kernel_rfl) (by rfl) (fun _ hS => rfl) hS3 ?_
  simp only [Act.put, List.setIfInBounds_toArray, List.set_cons_zero, List.set_cons_succ]
  refine take_op 16 (some 4) (Op.assign (Operand.tmp 60)) (none) (.bool true) aops_sel rfl (by kernel_rfl) (by kernel_rfl) (by rfl) (fun _ hS => rfl) hS3 ?_
  simp only [Act.put, List.setIfInBounds_toArray, List.set_cons_zero, List.set_cons_succ]
  exact wpAnyH_done (by kernel_rfl) (hR.out _ _ hb3) _

end Go.Proofs.Ytnkbkkbpmjemiaa

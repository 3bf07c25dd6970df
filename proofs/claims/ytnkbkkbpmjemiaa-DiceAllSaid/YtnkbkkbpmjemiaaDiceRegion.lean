/- The drawn statement of the law DiceAll: whatever order Go picks, its test comes to 'false', and the reference's cup is thrown. Conditions: what the cells hold. Printed by gen_dice.py. -/
import Derived.Test.YtnkbkkbpmjemiaaDiceWalks
import Derived.Deep.RegionHeld3
namespace Go.Proofs.Ytnkbkkbpmjemiaa
open Go.RowKit

theorem max_of_two (ats : Array TypeId) (ty : TypeId) (k k' : IntKind) (x y : Int) : Builtin.max_ ats ty #[.int k x, .int k' y] = pure (.int k (if x < y then y else x)) := by
  simp [Builtin.max_, Builtin.max2]
theorem min_of_two (ats : Array TypeId) (ty : TypeId) (k k' : IntKind) (x y : Int) : Builtin.min_ ats ty #[.int k x, .int k' y] = pure (.int k (if y < x then y else x)) := by
  simp [Builtin.min_, Builtin.min2]
attribute [local go_sem] max_of_two min_of_two

/-- Only the way out at the end. -/
def OnlyNormal (R : Act → World → Prop) : Exit → Act → World → Prop
  | .normal, a, w => R a w
  | _, _, _ => False
theorem OnlyNormal.imp {R : Act → World → Prop} {Q : Exit → Act → World → Prop} (h : ∀ a w, R a w → Q .normal a w) : ∀ (e : Exit) (a : Act) (w : World), OnlyNormal R e a w → Q e a w := fun e a w k => by
  cases e <;> first | exact h _ _ k | exact (k : False).elim
theorem only_normal {c : Code} {Q : Exit → Act → World → Prop} {a : Act} {w : World} (h : c.wp Try.prog (OnlyNormal (Q .normal)) a w) : c.wp Try.prog Q a w := Code.wp_mono (OnlyNormal.imp (fun _ _ h => h)) h
/-- Behind the reference's throw. -/
def P17 (F : World → Prop) (ca cb : Addr) (s : Int) (k' : Nat) (V : Int) (e : Ending) (w' : World) : Prop :=
  e = .returned (.int .i64 V) ∧ w'.cell? ca = some (.int .i64 s) ∧ w'.cell? cb = some (.int .i64 (k' : Int)) ∧ F w'
theorem wpAnyH_mono {P : Program} {md : Region.Mode} {ops : Array Oper} {Q : Exit → Act → World → Prop} {S S' : World → Prop} (hS : ∀ w, S' w → S w) :
    ∀ (fuel : Nat) (listed : Array Bool) (a : Act) (w : World), wpAnyH P md ops Q S' fuel listed a w → wpAnyH P md ops Q S fuel listed a w
  | 0, _, _, _, h => h
  | fuel + 1, _, _, _, h => ⟨h.1, fun i hi => wpOp_mono (fun _ _ h' => ⟨hS _ h'.1, wpAnyH_mono hS fuel _ _ _ h'.2⟩) (h.2 i hi)⟩

/-- The operations of region n of a body. -/
def regionOf (n : Nat) : Code → Option (Array Oper)
  | .region id ops _ => match Nat.beq id n with | true => some ops | false => none
  | .seq a b => match regionOf n a with | some x => some x | none => regionOf n b
  | .cond _ a b => match regionOf n a with | some x => some x | none => regionOf n b
  | .block _ a => regionOf n a
  | .loop a => regionOf n a
  | _ => none
/-- The drawn statement's operations, out of the loaded program. -/
noncomputable def dops : Array Oper := (Try.f6.body.bind (regionOf 13)).getD #[]
theorem dops_sel : Region.noSelect dops = true := by kernel_rfl
/-- One operation is taken. -/
theorem tk {S : World → Prop} {R : Act → World → Prop} {fuel : Nat} {listed : Array Bool} {a : Act} {w : World} (i : Nat) (dst : Option Tmp) (op : Op) (gd : Option (Nat × Bool)) {ty : TypeId} {pos : String} {after : Array Edge} (v : Value) (hi : dops[i]? = some ⟨dst, op, ty, pos, after, gd⟩) (hf : Region.free .any dops listed i = true) (hr : (Region.ready .any dops listed).contains i = true)
    (hw : Region.wanted ⟨dst, op, ty, pos, after, gd⟩ (yielded dops a.tmps) = true) (hy : ∀ w, S w → (execOp a.eval ⟨dst, op, ty, pos, after, gd⟩).run Try.prog w = .ok (.value v) w) (hS : S w)
    (h : wpAnyH Try.prog .any dops (OnlyNormal R) S fuel (listed.setIfInBounds i true) (a.put dst v) w) : wpAnyH Try.prog .any dops (OnlyNormal R) S (fuel + 1) listed a w :=
  wpAnyH_take hi dops_sel hf hr (fun _ _ _ h => h) (Or.inl ⟨hw, hy⟩) hS h
/-- One operation that is not wanted is taken. -/
theorem tkno {S : World → Prop} {R : Act → World → Prop} {fuel : Nat} {listed : Array Bool} {a : Act} {w : World} (i : Nat) (dst : Option Tmp) (op : Op) (gd : Option (Nat × Bool)) {ty : TypeId} {pos : String} {after : Array Edge} (hi : dops[i]? = some ⟨dst, op, ty, pos, after, gd⟩) (hf : Region.free .any dops listed i = true) (hr : (Region.ready .any dops listed).contains i = true)
    (hw : Region.wanted ⟨dst, op, ty, pos, after, gd⟩ (yielded dops a.tmps) = false) (hS : S w)
    (h : wpAnyH Try.prog .any dops (OnlyNormal R) S fuel (listed.setIfInBounds i true) (a.put dst undef) w) : wpAnyH Try.prog .any dops (OnlyNormal R) S (fuel + 1) listed a w :=
  wpAnyH_take hi dops_sel hf hr (fun _ _ _ h => h) (Or.inr ⟨hw, rfl⟩) hS h

set_option maxRecDepth 100000 in
set_option maxHeartbeats 4000000 in
theorem region13_yes (A : Option Addr) (m c ns cs g1 g2 j k' : Nat) (ads : Addr) (s V : Int) (F : World → Prop) (w : World) {R : Act → World → Prop} {v2 v3 v4 v5 v11 v12 v13 v14 v15 v16 v17 v18 v19 v20 v21 v22 v23 v24 v25 v26 v27 v28 v29 v30 v31 v32 v33 v34 v35 v36 v37 v38 v39 v40 v41 v42 v43 v44 v45 v46 v47 v48 v49 v50 v51 v52 v53 v54 v55 v56 v57 v58 v59 v60 v61 v62 v63 v64 v65 v66 v67 v68 v69 v70 v71 v72 v73 v74 v75 v76 v77 v78 v79 v80 v81 v82 v83 v84 v85 v86 v87 v88 v89 v90 v91 v92 v93 v94 v95 v96 v97 v98 v99 : Value}
    (j1 : j < ns) (hm : m ≤ 30) (hk' : k' ≤ m) (hs : 1 ≤ s) (hv1 : 1 ≤ V) (hv2 : V ≤ s)
    (hcell : w.cell? (ads.add j) = some (.int .i64 s))
    (K17 : Hid (∀ wx, wx.heap = w.heap → wx.os = w.os → wx.tape = w.tape → wx.output = w.output → Calls Try.prog 17 #[.pointer (some ⟨g2, 0, none⟩), .int .i64 s] wx (P17 F (ads.add j) ⟨g2, 1, none⟩ s k' V)))
    (K18 : Hid (∀ wx, F wx → Calls Try.prog 18 #[.pointer (some ⟨g1, 0, none⟩)] wx fun e w' => e = .returned (.int .i64 ((m : Int) - (k' : Int))) ∧ wx = w'))
    (K16 : Hid (∀ wx, Calls Try.prog 16 #[.pointer none, .int .i64 s] wx fun e w' => e = .returned (.int .i64 1) ∧ wx = w'))
    (hR : Hid (∀ w', F w' → R ⟨#[.slice A m c, .slice (some ads) ns cs, v2, v3, v4, v5, .pointer (some ⟨g1, 0, none⟩), .pointer (some ⟨g2, 0, none⟩), .pointer none, .int .i64 (j : Int), .int .i64 V, v11, v12, v13, v14, v15, v16, v17, v18, v19, v20, v21, v22, v23, v24, v25, v26, v27, v28, v29, v30, v31, v32, v33, v34, v35, v36, v37, v38, v39, .int .i64 V, .pointer (some ⟨g2, 0, none⟩), .slice (some ads) ns cs, .int .i64 (j : Int), .pointer (some (ads.add j)), .int .i64 s, .int .i64 V, .bool false, .bool false, .pointer (some ⟨g1, 0, none⟩), .int .i64 ((m : Int) - (k' : Int)), .slice A m c, .int .i64 (m : Int), .pointer (some ⟨g2, 0, none⟩), .pointer (some ⟨g2, 0, none⟩), .pointer (some ⟨g2, 1, none⟩), .int .i64 (k' : Int), .int .i64 ((m : Int) - (k' : Int)), .bool false, .bool false, .bool false, .slice (some ads) ns cs, .int .i64 (j : Int), .pointer (some (ads.add j)), .int .i64 s, .bool true, .bool true, .int .i64 V, .bool false, .bool false, .int .i64 V, .slice (some ads) ns cs, .int .i64 (j : Int), .pointer (some (ads.add j)), .int .i64 s, .bool false, .bool false, .bool false, .bool false, .bool false, .pointer none, .slice (some ads) ns cs, .int .i64 (j : Int), .pointer (some (ads.add j)), .int .i64 s, .int .i64 1, .slice (some ads) ns cs, .int .i64 (j : Int), .pointer (some (ads.add j)), .int .i64 s, .int .i64 s, .int .i64 1, .bool false, .bool false, v94, v95, v96, v97, v98, v99], []⟩ w')) :
    (Code.region 13 dops true).wp Try.prog (OnlyNormal R) ⟨#[.slice A m c, .slice (some ads) ns cs, v2, v3, v4, v5, .pointer (some ⟨g1, 0, none⟩), .pointer (some ⟨g2, 0, none⟩), .pointer none, .int .i64 (j : Int), .int .i64 V, v11, v12, v13, v14, v15, v16, v17, v18, v19, v20, v21, v22, v23, v24, v25, v26, v27, v28, v29, v30, v31, v32, v33, v34, v35, v36, v37, v38, v39, v40, v41, v42, v43, v44, v45, v46, v47, v48, v49, v50, v51, v52, v53, v54, v55, v56, v57, v58, v59, v60, v61, v62, v63, v64, v65, v66, v67, v68, v69, v70, v71, v72, v73, v74, v75, v76, v77, v78, v79, v80, v81, v82, v83, v84, v85, v86, v87, v88, v89, v90, v91, v92, v93, v94, v95, v96, v97, v98, v99], []⟩ w := by
  have j0 : (0 : Int) ≤ (j : Int) := by omega
  have j1' : (j : Int) < (ns : Int) := by omega
  have hw : IntKind.i64.wrap ((m : Int) - (k' : Int)) = (m : Int) - (k' : Int) := IntWalk.i64_in _ (by omega)
  have t1 : decide (0 < s) = true := decide_eq_true (by omega)
  have t2 : decide (V < 1) = false := decide_eq_false (by omega)
  have t3 : decide (s < V) = false := decide_eq_false (by omega)
  have h01 : ¬ s < 1 := by omega
  refine wp_region_held_drew (S := fun (wx : World) => wx.cell? (ads.add j) = some (.int .i64 s)) (by kernel_rfl) hcell (fun hS => ?_)
  clear hcell
  refine tk 0 (some 40) (Op.move (Operand.tmp 10)) (none) (.int .i64 V) rfl (by kernel_rfl) (by kernel_rfl) (by rfl) (fun w hS => by (try dsimp only at hS); (try obtain ⟨hS, hT⟩ := hS); go_simp) hS ?_
  simp only [Act.put, List.setIfInBounds_toArray, List.set_cons_zero, List.set_cons_succ]
  refine tk 1 (some 41) (Op.move (Operand.tmp 7)) (none) (.pointer (some ⟨g2, 0, none⟩)) rfl (by kernel_rfl) (by kernel_rfl) (by rfl) (fun w hS => by (try dsimp only at hS); (try obtain ⟨hS, hT⟩ := hS); go_simp) hS ?_
  simp only [Act.put, List.setIfInBounds_toArray, List.set_cons_zero, List.set_cons_succ]
  refine tk 2 (some 42) (Op.move (Operand.tmp 1)) (none) (.slice (some ads) ns cs) rfl (by kernel_rfl) (by kernel_rfl) (by rfl) (fun w hS => by (try dsimp only at hS); (try obtain ⟨hS, hT⟩ := hS); go_simp) hS ?_
  simp only [Act.put, List.setIfInBounds_toArray, List.set_cons_zero, List.set_cons_succ]
  refine tk 3 (some 43) (Op.move (Operand.tmp 9)) (none) (.int .i64 (j : Int)) rfl (by kernel_rfl) (by kernel_rfl) (by rfl) (fun w hS => by (try dsimp only at hS); (try obtain ⟨hS, hT⟩ := hS); go_simp) hS ?_
  simp only [Act.put, List.setIfInBounds_toArray, List.set_cons_zero, List.set_cons_succ]
  refine tk 4 (some 44) (Op.indexAddr 22 (Operand.tmp 42) (Operand.tmp 43)) (none) (.pointer (some (ads.add j))) rfl (by kernel_rfl) (by kernel_rfl) (by rfl) (fun w hS => by (try dsimp only at hS); (try obtain ⟨hS, hT⟩ := hS); go_simp) hS ?_
  simp only [Act.put, List.setIfInBounds_toArray, List.set_cons_zero, List.set_cons_succ]
  refine tk 5 (some 45) (Op.load 3 (Operand.tmp 44)) (none) (.int .i64 s) rfl (by kernel_rfl) (by kernel_rfl) (by rfl) (fun w hS => by (try dsimp only at hS); (try obtain ⟨hS, hT⟩ := hS); go_simp) hS ?_
  simp only [Act.put, List.setIfInBounds_toArray, List.set_cons_zero, List.set_cons_succ]
  refine wpAnyH_ready (rs := [6]) (by kernel_rfl) (by simp) ?_
  refine AllReadyH.cons (o := ⟨some 46, Op.call { callee := Callee.value (Operand.func 17), args := #[Operand.tmp 41, Operand.tmp 45], argTypes := #[34, 3] }, _, _, _, none⟩) rfl (fun K hK => ?_) AllReadyH.nil
  go_simp
  refine (K17.out w.drew rfl rfl rfl rfl).mono ?_
  rintro e w4 ⟨rfl, hc4, ha4, hF4⟩
  go_wp2_with fail
  refine hK.out _ _ hc4 (fun _ => ?_)
  clear hK K hS
  try simp only [Act.put, List.setIfInBounds_toArray, List.set_cons_zero, List.set_cons_succ]
  refine wpAnyH_mono (S' := fun (wx : World) => wx.cell? (ads.add j) = some (.int .i64 s) ∧ wx.cell? ⟨g2, 1, none⟩ = some (.int .i64 (k' : Int))) (fun _ h => h.1) _ _ _ _ ?_
  have hS : w4.cell? (ads.add j) = some (.int .i64 s) ∧ w4.cell? ⟨g2, 1, none⟩ = some (.int .i64 (k' : Int)) := ⟨hc4, ha4⟩
  clear hc4 ha4
  refine tk 7 (some 47) (Op.binOp BinOp.neq 2 (Operand.tmp 40) (Operand.tmp 46) 2) (none) (.bool false) rfl (by kernel_rfl) (by kernel_rfl) (by rfl) (fun w hS => by (try dsimp only at hS); (try obtain ⟨hS, hT⟩ := hS); go_simp) hS ?_
  simp only [Act.put, List.setIfInBounds_toArray, List.set_cons_zero, List.set_cons_succ]
  refine tk 8 (some 48) (Op.move (Operand.tmp 47)) (none) (.bool false) rfl (by kernel_rfl) (by kernel_rfl) (by rfl) (fun w hS => by (try dsimp only at hS); (try obtain ⟨hS, hT⟩ := hS); go_simp) hS ?_
  simp only [Act.put, List.setIfInBounds_toArray, List.set_cons_zero, List.set_cons_succ]
  refine tk 9 (some 49) (Op.move (Operand.tmp 6)) (some (8, false)) (.pointer (some ⟨g1, 0, none⟩)) rfl (by kernel_rfl) (by kernel_rfl) (by rfl) (fun w hS => by (try dsimp only at hS); (try obtain ⟨hS, hT⟩ := hS); go_simp) hS ?_
  simp only [Act.put, List.setIfInBounds_toArray, List.set_cons_zero, List.set_cons_succ]
  refine tk 11 (some 51) (Op.move (Operand.tmp 0)) (some (8, false)) (.slice A m c) rfl (by kernel_rfl) (by kernel_rfl) (by rfl) (fun w hS => by (try dsimp only at hS); (try obtain ⟨hS, hT⟩ := hS); go_simp) hS ?_
  simp only [Act.put, List.setIfInBounds_toArray, List.set_cons_zero, List.set_cons_succ]
  refine tk 12 (some 52) (Op.call { callee := Callee.builtin Builtin.len, args := #[Operand.tmp 51], argTypes := #[22] }) (some (8, false)) (.int .i64 (m : Int)) rfl (by kernel_rfl) (by kernel_rfl) (by rfl) (fun w hS => by (try dsimp only at hS); (try obtain ⟨hS, hT⟩ := hS); go_simp) hS ?_
  simp only [Act.put, List.setIfInBounds_toArray, List.set_cons_zero, List.set_cons_succ]
  refine tk 13 (some 53) (Op.move (Operand.tmp 7)) (some (8, false)) (.pointer (some ⟨g2, 0, none⟩)) rfl (by kernel_rfl) (by kernel_rfl) (by rfl) (fun w hS => by (try dsimp only at hS); (try obtain ⟨hS, hT⟩ := hS); go_simp) hS ?_
  simp only [Act.put, List.setIfInBounds_toArray, List.set_cons_zero, List.set_cons_succ]
  refine tk 14 (some 54) (Op.nilCheck (Operand.tmp 53)) (some (8, false)) (.pointer (some ⟨g2, 0, none⟩)) rfl (by kernel_rfl) (by kernel_rfl) (by rfl) (fun w hS => by (try dsimp only at hS); (try obtain ⟨hS, hT⟩ := hS); go_simp) hS ?_
  simp only [Act.put, List.setIfInBounds_toArray, List.set_cons_zero, List.set_cons_succ]
  refine tk 15 (some 55) (Op.fieldAddr 36 (Operand.tmp 54) 1) (some (8, false)) (.pointer (some ⟨g2, 1, none⟩)) rfl (by kernel_rfl) (by kernel_rfl) (by rfl) (fun w hS => by (try dsimp only at hS); (try obtain ⟨hS, hT⟩ := hS); go_simp) hS ?_
  simp only [Act.put, List.setIfInBounds_toArray, List.set_cons_zero, List.set_cons_succ]
  refine tk 16 (some 56) (Op.load 3 (Operand.tmp 55)) (some (8, false)) (.int .i64 (k' : Int)) rfl (by kernel_rfl) (by kernel_rfl) (by rfl) (fun w hS => by (try dsimp only at hS); (try obtain ⟨hS, hT⟩ := hS); go_simp) hS ?_
  simp only [Act.put, List.setIfInBounds_toArray, List.set_cons_zero, List.set_cons_succ]
  refine tk 17 (some 57) (Op.binOp BinOp.sub 3 (Operand.tmp 52) (Operand.tmp 56) 3) (some (8, false)) (.int .i64 ((m : Int) - (k' : Int))) rfl (by kernel_rfl) (by kernel_rfl) (by rfl) (fun w hS => by (try dsimp only at hS); (try obtain ⟨hS, hT⟩ := hS); go_simp) hS ?_
  simp only [Act.put, List.setIfInBounds_toArray, List.set_cons_zero, List.set_cons_succ]
  refine wpAnyH_ready (rs := [10]) (by kernel_rfl) (by simp) ?_
  refine AllReadyH.cons (o := ⟨some 50, Op.call { callee := Callee.value (Operand.func 18), args := #[Operand.tmp 49], argTypes := #[32] }, _, _, _, some (8, false)⟩) rfl (fun K hK => ?_) AllReadyH.nil
  go_simp
  refine (K18.out _ hF4).mono ?_
  rintro e w5 ⟨rfl, rfl⟩
  go_wp2_with fail
  refine hK.out _ _ hS (fun _ => ?_)
  clear hK K
  try simp only [Act.put, List.setIfInBounds_toArray, List.set_cons_zero, List.set_cons_succ]
  refine tk 18 (some 58) (Op.binOp BinOp.neq 3 (Operand.tmp 50) (Operand.tmp 57) 3) (some (8, false)) (.bool false) rfl (by kernel_rfl) (by kernel_rfl) (by rfl) (fun w hS => by (try dsimp only at hS); (try obtain ⟨hS, hT⟩ := hS); go_simp) hS ?_
  simp only [Act.put, List.setIfInBounds_toArray, List.set_cons_zero, List.set_cons_succ]
  refine tk 19 (some 59) (Op.pick (Operand.tmp 48) (Operand.const (Value.bool true)) (Operand.tmp 58)) (none) (.bool false) rfl (by kernel_rfl) (by kernel_rfl) (by rfl) (fun w hS => by (try dsimp only at hS); (try obtain ⟨hS, hT⟩ := hS); go_simp) hS ?_
  simp only [Act.put, List.setIfInBounds_toArray, List.set_cons_zero, List.set_cons_succ]
  refine tk 20 (some 60) (Op.move (Operand.tmp 59)) (none) (.bool false) rfl (by kernel_rfl) (by kernel_rfl) (by rfl) (fun w hS => by (try dsimp only at hS); (try obtain ⟨hS, hT⟩ := hS); go_simp) hS ?_
  simp only [Act.put, List.setIfInBounds_toArray, List.set_cons_zero, List.set_cons_succ]
  refine tk 21 (some 61) (Op.move (Operand.tmp 1)) (some (20, false)) (.slice (some ads) ns cs) rfl (by kernel_rfl) (by kernel_rfl) (by rfl) (fun w hS => by (try dsimp only at hS); (try obtain ⟨hS, hT⟩ := hS); go_simp) hS ?_
  simp only [Act.put, List.setIfInBounds_toArray, List.set_cons_zero, List.set_cons_succ]
  refine tk 22 (some 62) (Op.move (Operand.tmp 9)) (some (20, false)) (.int .i64 (j : Int)) rfl (by kernel_rfl) (by kernel_rfl) (by rfl) (fun w hS => by (try dsimp only at hS); (try obtain ⟨hS, hT⟩ := hS); go_simp) hS ?_
  simp only [Act.put, List.setIfInBounds_toArray, List.set_cons_zero, List.set_cons_succ]
  refine tk 23 (some 63) (Op.indexAddr 22 (Operand.tmp 61) (Operand.tmp 62)) (some (20, false)) (.pointer (some (ads.add j))) rfl (by kernel_rfl) (by kernel_rfl) (by rfl) (fun w hS => by (try dsimp only at hS); (try obtain ⟨hS, hT⟩ := hS); go_simp) hS ?_
  simp only [Act.put, List.setIfInBounds_toArray, List.set_cons_zero, List.set_cons_succ]
  refine tk 24 (some 64) (Op.load 3 (Operand.tmp 63)) (some (20, false)) (.int .i64 s) rfl (by kernel_rfl) (by kernel_rfl) (by rfl) (fun w hS => by (try dsimp only at hS); (try obtain ⟨hS, hT⟩ := hS); go_simp) hS ?_
  simp only [Act.put, List.setIfInBounds_toArray, List.set_cons_zero, List.set_cons_succ]
  refine tk 25 (some 65) (Op.binOp BinOp.gtr 3 (Operand.tmp 64) (Operand.const (Value.int IntKind.i64 0)) 3) (some (20, false)) (.bool true) rfl (by kernel_rfl) (by kernel_rfl) (by rfl) (fun w hS => by (try dsimp only at hS); (try obtain ⟨hS, hT⟩ := hS); go_simp) hS ?_
  simp only [Act.put, List.setIfInBounds_toArray, List.set_cons_zero, List.set_cons_succ]
  refine tk 26 (some 66) (Op.move (Operand.tmp 65)) (some (20, false)) (.bool true) rfl (by kernel_rfl) (by kernel_rfl) (by rfl) (fun w hS => by (try dsimp only at hS); (try obtain ⟨hS, hT⟩ := hS); go_simp) hS ?_
  simp only [Act.put, List.setIfInBounds_toArray, List.set_cons_zero, List.set_cons_succ]
  refine tk 27 (some 67) (Op.move (Operand.tmp 10)) (some (26, true)) (.int .i64 V) rfl (by kernel_rfl) (by kernel_rfl) (by rfl) (fun w hS => by (try dsimp only at hS); (try obtain ⟨hS, hT⟩ := hS); go_simp) hS ?_
  simp only [Act.put, List.setIfInBounds_toArray, List.set_cons_zero, List.set_cons_succ]
  refine tk 28 (some 68) (Op.binOp BinOp.lss 2 (Operand.tmp 67) (Operand.const (Value.int IntKind.i64 1)) 2) (some (26, true)) (.bool false) rfl (by kernel_rfl) (by kernel_rfl) (by rfl) (fun w hS => by (try dsimp only at hS); (try obtain ⟨hS, hT⟩ := hS); go_simp) hS ?_
  simp only [Act.put, List.setIfInBounds_toArray, List.set_cons_zero, List.set_cons_succ]
  refine tk 29 (some 69) (Op.move (Operand.tmp 68)) (some (26, true)) (.bool false) rfl (by kernel_rfl) (by kernel_rfl) (by rfl) (fun w hS => by (try dsimp only at hS); (try obtain ⟨hS, hT⟩ := hS); go_simp) hS ?_
  simp only [Act.put, List.setIfInBounds_toArray, List.set_cons_zero, List.set_cons_succ]
  refine tk 30 (some 70) (Op.move (Operand.tmp 10)) (some (29, false)) (.int .i64 V) rfl (by kernel_rfl) (by kernel_rfl) (by rfl) (fun w hS => by (try dsimp only at hS); (try obtain ⟨hS, hT⟩ := hS); go_simp) hS ?_
  simp only [Act.put, List.setIfInBounds_toArray, List.set_cons_zero, List.set_cons_succ]
  refine tk 31 (some 71) (Op.move (Operand.tmp 1)) (some (29, false)) (.slice (some ads) ns cs) rfl (by kernel_rfl) (by kernel_rfl) (by rfl) (fun w hS => by (try dsimp only at hS); (try obtain ⟨hS, hT⟩ := hS); go_simp) hS ?_
  simp only [Act.put, List.setIfInBounds_toArray, List.set_cons_zero, List.set_cons_succ]
  refine tk 32 (some 72) (Op.move (Operand.tmp 9)) (some (29, false)) (.int .i64 (j : Int)) rfl (by kernel_rfl) (by kernel_rfl) (by rfl) (fun w hS => by (try dsimp only at hS); (try obtain ⟨hS, hT⟩ := hS); go_simp) hS ?_
  simp only [Act.put, List.setIfInBounds_toArray, List.set_cons_zero, List.set_cons_succ]
  refine tk 33 (some 73) (Op.indexAddr 22 (Operand.tmp 71) (Operand.tmp 72)) (some (29, false)) (.pointer (some (ads.add j))) rfl (by kernel_rfl) (by kernel_rfl) (by rfl) (fun w hS => by (try dsimp only at hS); (try obtain ⟨hS, hT⟩ := hS); go_simp) hS ?_
  simp only [Act.put, List.setIfInBounds_toArray, List.set_cons_zero, List.set_cons_succ]
  refine tk 34 (some 74) (Op.load 3 (Operand.tmp 73)) (some (29, false)) (.int .i64 s) rfl (by kernel_rfl) (by kernel_rfl) (by rfl) (fun w hS => by (try dsimp only at hS); (try obtain ⟨hS, hT⟩ := hS); go_simp) hS ?_
  simp only [Act.put, List.setIfInBounds_toArray, List.set_cons_zero, List.set_cons_succ]
  refine tk 35 (some 75) (Op.binOp BinOp.gtr 2 (Operand.tmp 70) (Operand.tmp 74) 2) (some (29, false)) (.bool false) rfl (by kernel_rfl) (by kernel_rfl) (by rfl) (fun w hS => by (try dsimp only at hS); (try obtain ⟨hS, hT⟩ := hS); go_simp) hS ?_
  simp only [Act.put, List.setIfInBounds_toArray, List.set_cons_zero, List.set_cons_succ]
  refine tk 36 (some 76) (Op.pick (Operand.tmp 69) (Operand.const (Value.bool true)) (Operand.tmp 75)) (some (26, true)) (.bool false) rfl (by kernel_rfl) (by kernel_rfl) (by rfl) (fun w hS => by (try dsimp only at hS); (try obtain ⟨hS, hT⟩ := hS); go_simp) hS ?_
  simp only [Act.put, List.setIfInBounds_toArray, List.set_cons_zero, List.set_cons_succ]
  refine tk 37 (some 77) (Op.pick (Operand.tmp 66) (Operand.tmp 76) (Operand.const (Value.bool false))) (some (20, false)) (.bool false) rfl (by kernel_rfl) (by kernel_rfl) (by rfl) (fun w hS => by (try dsimp only at hS); (try obtain ⟨hS, hT⟩ := hS); go_simp) hS ?_
  simp only [Act.put, List.setIfInBounds_toArray, List.set_cons_zero, List.set_cons_succ]
  refine tk 38 (some 78) (Op.pick (Operand.tmp 60) (Operand.const (Value.bool true)) (Operand.tmp 77)) (none) (.bool false) rfl (by kernel_rfl) (by kernel_rfl) (by rfl) (fun w hS => by (try dsimp only at hS); (try obtain ⟨hS, hT⟩ := hS); go_simp) hS ?_
  simp only [Act.put, List.setIfInBounds_toArray, List.set_cons_zero, List.set_cons_succ]
  refine tk 39 (some 79) (Op.move (Operand.tmp 78)) (none) (.bool false) rfl (by kernel_rfl) (by kernel_rfl) (by rfl) (fun w hS => by (try dsimp only at hS); (try obtain ⟨hS, hT⟩ := hS); go_simp) hS ?_
  simp only [Act.put, List.setIfInBounds_toArray, List.set_cons_zero, List.set_cons_succ]
  refine tk 40 (some 80) (Op.move (Operand.tmp 8)) (some (39, false)) (.pointer none) rfl (by kernel_rfl) (by kernel_rfl) (by rfl) (fun w hS => by (try dsimp only at hS); (try obtain ⟨hS, hT⟩ := hS); go_simp) hS ?_
  simp only [Act.put, List.setIfInBounds_toArray, List.set_cons_zero, List.set_cons_succ]
  refine tk 41 (some 81) (Op.move (Operand.tmp 1)) (some (39, false)) (.slice (some ads) ns cs) rfl (by kernel_rfl) (by kernel_rfl) (by rfl) (fun w hS => by (try dsimp only at hS); (try obtain ⟨hS, hT⟩ := hS); go_simp) hS ?_
  simp only [Act.put, List.setIfInBounds_toArray, List.set_cons_zero, List.set_cons_succ]
  refine tk 42 (some 82) (Op.move (Operand.tmp 9)) (some (39, false)) (.int .i64 (j : Int)) rfl (by kernel_rfl) (by kernel_rfl) (by rfl) (fun w hS => by (try dsimp only at hS); (try obtain ⟨hS, hT⟩ := hS); go_simp) hS ?_
  simp only [Act.put, List.setIfInBounds_toArray, List.set_cons_zero, List.set_cons_succ]
  refine tk 43 (some 83) (Op.indexAddr 22 (Operand.tmp 81) (Operand.tmp 82)) (some (39, false)) (.pointer (some (ads.add j))) rfl (by kernel_rfl) (by kernel_rfl) (by rfl) (fun w hS => by (try dsimp only at hS); (try obtain ⟨hS, hT⟩ := hS); go_simp) hS ?_
  simp only [Act.put, List.setIfInBounds_toArray, List.set_cons_zero, List.set_cons_succ]
  refine tk 44 (some 84) (Op.load 3 (Operand.tmp 83)) (some (39, false)) (.int .i64 s) rfl (by kernel_rfl) (by kernel_rfl) (by rfl) (fun w hS => by (try dsimp only at hS); (try obtain ⟨hS, hT⟩ := hS); go_simp) hS ?_
  simp only [Act.put, List.setIfInBounds_toArray, List.set_cons_zero, List.set_cons_succ]
  refine tk 46 (some 86) (Op.move (Operand.tmp 1)) (some (39, false)) (.slice (some ads) ns cs) rfl (by kernel_rfl) (by kernel_rfl) (by rfl) (fun w hS => by (try dsimp only at hS); (try obtain ⟨hS, hT⟩ := hS); go_simp) hS ?_
  simp only [Act.put, List.setIfInBounds_toArray, List.set_cons_zero, List.set_cons_succ]
  refine tk 47 (some 87) (Op.move (Operand.tmp 9)) (some (39, false)) (.int .i64 (j : Int)) rfl (by kernel_rfl) (by kernel_rfl) (by rfl) (fun w hS => by (try dsimp only at hS); (try obtain ⟨hS, hT⟩ := hS); go_simp) hS ?_
  simp only [Act.put, List.setIfInBounds_toArray, List.set_cons_zero, List.set_cons_succ]
  refine tk 48 (some 88) (Op.indexAddr 22 (Operand.tmp 86) (Operand.tmp 87)) (some (39, false)) (.pointer (some (ads.add j))) rfl (by kernel_rfl) (by kernel_rfl) (by rfl) (fun w hS => by (try dsimp only at hS); (try obtain ⟨hS, hT⟩ := hS); go_simp) hS ?_
  simp only [Act.put, List.setIfInBounds_toArray, List.set_cons_zero, List.set_cons_succ]
  refine tk 49 (some 89) (Op.load 3 (Operand.tmp 88)) (some (39, false)) (.int .i64 s) rfl (by kernel_rfl) (by kernel_rfl) (by rfl) (fun w hS => by (try dsimp only at hS); (try obtain ⟨hS, hT⟩ := hS); go_simp) hS ?_
  simp only [Act.put, List.setIfInBounds_toArray, List.set_cons_zero, List.set_cons_succ]
  refine tk 50 (some 90) (Op.call { callee := Callee.builtin Builtin.max, args := #[Operand.const (Value.int IntKind.i64 0), Operand.tmp 89], argTypes := #[3, 3] }) (some (39, false)) (.int .i64 s) rfl (by kernel_rfl) (by kernel_rfl) (by rfl) (fun w hS => by (try dsimp only at hS); (try obtain ⟨hS, hT⟩ := hS); go_simp; omega) hS ?_
  simp only [Act.put, List.setIfInBounds_toArray, List.set_cons_zero, List.set_cons_succ]
  refine tk 51 (some 91) (Op.call { callee := Callee.builtin Builtin.min, args := #[Operand.const (Value.int IntKind.i64 1), Operand.tmp 90], argTypes := #[2, 2] }) (some (39, false)) (.int .i64 1) rfl (by kernel_rfl) (by kernel_rfl) (by rfl) (fun w hS => by (try dsimp only at hS); (try obtain ⟨hS, hT⟩ := hS); go_simp; omega) hS ?_
  simp only [Act.put, List.setIfInBounds_toArray, List.set_cons_zero, List.set_cons_succ]
  refine wpAnyH_ready (rs := [45]) (by kernel_rfl) (by simp) ?_
  refine AllReadyH.cons (o := ⟨some 85, Op.call { callee := Callee.value (Operand.func 16), args := #[Operand.tmp 80, Operand.tmp 84], argTypes := #[32, 3] }, _, _, _, some (39, false)⟩) rfl (fun K hK => ?_) AllReadyH.nil
  go_simp
  refine (K16.out _).mono ?_
  rintro e w5 ⟨rfl, rfl⟩
  go_wp2_with fail
  refine hK.out _ _ hS (fun _ => ?_)
  clear hK K
  try simp only [Act.put, List.setIfInBounds_toArray, List.set_cons_zero, List.set_cons_succ]
  refine tk 52 (some 92) (Op.binOp BinOp.neq 2 (Operand.tmp 85) (Operand.tmp 91) 2) (some (39, false)) (.bool false) rfl (by kernel_rfl) (by kernel_rfl) (by rfl) (fun w hS => by (try dsimp only at hS); (try obtain ⟨hS, hT⟩ := hS); go_simp) hS ?_
  simp only [Act.put, List.setIfInBounds_toArray, List.set_cons_zero, List.set_cons_succ]
  refine tk 53 (some 93) (Op.pick (Operand.tmp 79) (Operand.const (Value.bool true)) (Operand.tmp 92)) (none) (.bool false) rfl (by kernel_rfl) (by kernel_rfl) (by rfl) (fun w hS => by (try dsimp only at hS); (try obtain ⟨hS, hT⟩ := hS); go_simp) hS ?_
  simp only [Act.put, List.setIfInBounds_toArray, List.set_cons_zero, List.set_cons_succ]
  exact wpAnyH_done (by kernel_rfl) (hR.out _ hF4) _

set_option maxRecDepth 100000 in
set_option maxHeartbeats 4000000 in
theorem region13_no (A : Option Addr) (m c ns cs g1 g2 j k' : Nat) (ads : Addr) (s V : Int) (F : World → Prop) (w : World) {R : Act → World → Prop} {v2 v3 v4 v5 v11 v12 v13 v14 v15 v16 v17 v18 v19 v20 v21 v22 v23 v24 v25 v26 v27 v28 v29 v30 v31 v32 v33 v34 v35 v36 v37 v38 v39 v40 v41 v42 v43 v44 v45 v46 v47 v48 v49 v50 v51 v52 v53 v54 v55 v56 v57 v58 v59 v60 v61 v62 v63 v64 v65 v66 v67 v68 v69 v70 v71 v72 v73 v74 v75 v76 v77 v78 v79 v80 v81 v82 v83 v84 v85 v86 v87 v88 v89 v90 v91 v92 v93 v94 v95 v96 v97 v98 v99 : Value}
    (j1 : j < ns) (hm : m ≤ 30) (hk' : k' ≤ m) (hs : s < 1)
    (hcell : w.cell? (ads.add j) = some (.int .i64 s))
    (K17 : Hid (∀ wx, wx.heap = w.heap → wx.os = w.os → wx.tape = w.tape → wx.output = w.output → Calls Try.prog 17 #[.pointer (some ⟨g2, 0, none⟩), .int .i64 s] wx (P17 F (ads.add j) ⟨g2, 1, none⟩ s k' V)))
    (K18 : Hid (∀ wx, F wx → Calls Try.prog 18 #[.pointer (some ⟨g1, 0, none⟩)] wx fun e w' => e = .returned (.int .i64 ((m : Int) - (k' : Int))) ∧ wx = w'))
    (K16 : Hid (∀ wx, Calls Try.prog 16 #[.pointer none, .int .i64 s] wx fun e w' => e = .returned (.int .i64 0) ∧ wx = w'))
    (hR : Hid (∀ w', F w' → R ⟨#[.slice A m c, .slice (some ads) ns cs, v2, v3, v4, v5, .pointer (some ⟨g1, 0, none⟩), .pointer (some ⟨g2, 0, none⟩), .pointer none, .int .i64 (j : Int), .int .i64 V, v11, v12, v13, v14, v15, v16, v17, v18, v19, v20, v21, v22, v23, v24, v25, v26, v27, v28, v29, v30, v31, v32, v33, v34, v35, v36, v37, v38, v39, .int .i64 V, .pointer (some ⟨g2, 0, none⟩), .slice (some ads) ns cs, .int .i64 (j : Int), .pointer (some (ads.add j)), .int .i64 s, .int .i64 V, .bool false, .bool false, .pointer (some ⟨g1, 0, none⟩), .int .i64 ((m : Int) - (k' : Int)), .slice A m c, .int .i64 (m : Int), .pointer (some ⟨g2, 0, none⟩), .pointer (some ⟨g2, 0, none⟩), .pointer (some ⟨g2, 1, none⟩), .int .i64 (k' : Int), .int .i64 ((m : Int) - (k' : Int)), .bool false, .bool false, .bool false, .slice (some ads) ns cs, .int .i64 (j : Int), .pointer (some (ads.add j)), .int .i64 s, .bool false, .bool false, undef, undef, undef, undef, undef, undef, undef, undef, undef, undef, .bool false, .bool false, .bool false, .pointer none, .slice (some ads) ns cs, .int .i64 (j : Int), .pointer (some (ads.add j)), .int .i64 s, .int .i64 0, .slice (some ads) ns cs, .int .i64 (j : Int), .pointer (some (ads.add j)), .int .i64 s, .int .i64 0, .int .i64 0, .bool false, .bool false, v94, v95, v96, v97, v98, v99], []⟩ w')) :
    (Code.region 13 dops true).wp Try.prog (OnlyNormal R) ⟨#[.slice A m c, .slice (some ads) ns cs, v2, v3, v4, v5, .pointer (some ⟨g1, 0, none⟩), .pointer (some ⟨g2, 0, none⟩), .pointer none, .int .i64 (j : Int), .int .i64 V, v11, v12, v13, v14, v15, v16, v17, v18, v19, v20, v21, v22, v23, v24, v25, v26, v27, v28, v29, v30, v31, v32, v33, v34, v35, v36, v37, v38, v39, v40, v41, v42, v43, v44, v45, v46, v47, v48, v49, v50, v51, v52, v53, v54, v55, v56, v57, v58, v59, v60, v61, v62, v63, v64, v65, v66, v67, v68, v69, v70, v71, v72, v73, v74, v75, v76, v77, v78, v79, v80, v81, v82, v83, v84, v85, v86, v87, v88, v89, v90, v91, v92, v93, v94, v95, v96, v97, v98, v99], []⟩ w := by
  have j0 : (0 : Int) ≤ (j : Int) := by omega
  have j1' : (j : Int) < (ns : Int) := by omega
  have hw : IntKind.i64.wrap ((m : Int) - (k' : Int)) = (m : Int) - (k' : Int) := IntWalk.i64_in _ (by omega)
  have t1 : decide (0 < s) = false := decide_eq_false (by omega)
  have h01 : ¬ 0 < s := by omega
  refine wp_region_held_drew (S := fun (wx : World) => wx.cell? (ads.add j) = some (.int .i64 s)) (by kernel_rfl) hcell (fun hS => ?_)
  clear hcell
  refine tk 0 (some 40) (Op.move (Operand.tmp 10)) (none) (.int .i64 V) rfl (by kernel_rfl) (by kernel_rfl) (by rfl) (fun w hS => by (try dsimp only at hS); (try obtain ⟨hS, hT⟩ := hS); go_simp) hS ?_
  simp only [Act.put, List.setIfInBounds_toArray, List.set_cons_zero, List.set_cons_succ]
  refine tk 1 (some 41) (Op.move (Operand.tmp 7)) (none) (.pointer (some ⟨g2, 0, none⟩)) rfl (by kernel_rfl) (by kernel_rfl) (by rfl) (fun w hS => by (try dsimp only at hS); (try obtain ⟨hS, hT⟩ := hS); go_simp) hS ?_
  simp only [Act.put, List.setIfInBounds_toArray, List.set_cons_zero, List.set_cons_succ]
  refine tk 2 (some 42) (Op.move (Operand.tmp 1)) (none) (.slice (some ads) ns cs) rfl (by kernel_rfl) (by kernel_rfl) (by rfl) (fun w hS => by (try dsimp only at hS); (try obtain ⟨hS, hT⟩ := hS); go_simp) hS ?_
  simp only [Act.put, List.setIfInBounds_toArray, List.set_cons_zero, List.set_cons_succ]
  refine tk 3 (some 43) (Op.move (Operand.tmp 9)) (none) (.int .i64 (j : Int)) rfl (by kernel_rfl) (by kernel_rfl) (by rfl) (fun w hS => by (try dsimp only at hS); (try obtain ⟨hS, hT⟩ := hS); go_simp) hS ?_
  simp only [Act.put, List.setIfInBounds_toArray, List.set_cons_zero, List.set_cons_succ]
  refine tk 4 (some 44) (Op.indexAddr 22 (Operand.tmp 42) (Operand.tmp 43)) (none) (.pointer (some (ads.add j))) rfl (by kernel_rfl) (by kernel_rfl) (by rfl) (fun w hS => by (try dsimp only at hS); (try obtain ⟨hS, hT⟩ := hS); go_simp) hS ?_
  simp only [Act.put, List.setIfInBounds_toArray, List.set_cons_zero, List.set_cons_succ]
  refine tk 5 (some 45) (Op.load 3 (Operand.tmp 44)) (none) (.int .i64 s) rfl (by kernel_rfl) (by kernel_rfl) (by rfl) (fun w hS => by (try dsimp only at hS); (try obtain ⟨hS, hT⟩ := hS); go_simp) hS ?_
  simp only [Act.put, List.setIfInBounds_toArray, List.set_cons_zero, List.set_cons_succ]
  refine wpAnyH_ready (rs := [6]) (by kernel_rfl) (by simp) ?_
  refine AllReadyH.cons (o := ⟨some 46, Op.call { callee := Callee.value (Operand.func 17), args := #[Operand.tmp 41, Operand.tmp 45], argTypes := #[34, 3] }, _, _, _, none⟩) rfl (fun K hK => ?_) AllReadyH.nil
  go_simp
  refine (K17.out w.drew rfl rfl rfl rfl).mono ?_
  rintro e w4 ⟨rfl, hc4, ha4, hF4⟩
  go_wp2_with fail
  refine hK.out _ _ hc4 (fun _ => ?_)
  clear hK K hS
  try simp only [Act.put, List.setIfInBounds_toArray, List.set_cons_zero, List.set_cons_succ]
  refine wpAnyH_mono (S' := fun (wx : World) => wx.cell? (ads.add j) = some (.int .i64 s) ∧ wx.cell? ⟨g2, 1, none⟩ = some (.int .i64 (k' : Int))) (fun _ h => h.1) _ _ _ _ ?_
  have hS : w4.cell? (ads.add j) = some (.int .i64 s) ∧ w4.cell? ⟨g2, 1, none⟩ = some (.int .i64 (k' : Int)) := ⟨hc4, ha4⟩
  clear hc4 ha4
  refine tk 7 (some 47) (Op.binOp BinOp.neq 2 (Operand.tmp 40) (Operand.tmp 46) 2) (none) (.bool false) rfl (by kernel_rfl) (by kernel_rfl) (by rfl) (fun w hS => by (try dsimp only at hS); (try obtain ⟨hS, hT⟩ := hS); go_simp) hS ?_
  simp only [Act.put, List.setIfInBounds_toArray, List.set_cons_zero, List.set_cons_succ]
  refine tk 8 (some 48) (Op.move (Operand.tmp 47)) (none) (.bool false) rfl (by kernel_rfl) (by kernel_rfl) (by rfl) (fun w hS => by (try dsimp only at hS); (try obtain ⟨hS, hT⟩ := hS); go_simp) hS ?_
  simp only [Act.put, List.setIfInBounds_toArray, List.set_cons_zero, List.set_cons_succ]
  refine tk 9 (some 49) (Op.move (Operand.tmp 6)) (some (8, false)) (.pointer (some ⟨g1, 0, none⟩)) rfl (by kernel_rfl) (by kernel_rfl) (by rfl) (fun w hS => by (try dsimp only at hS); (try obtain ⟨hS, hT⟩ := hS); go_simp) hS ?_
  simp only [Act.put, List.setIfInBounds_toArray, List.set_cons_zero, List.set_cons_succ]
  refine tk 11 (some 51) (Op.move (Operand.tmp 0)) (some (8, false)) (.slice A m c) rfl (by kernel_rfl) (by kernel_rfl) (by rfl) (fun w hS => by (try dsimp only at hS); (try obtain ⟨hS, hT⟩ := hS); go_simp) hS ?_
  simp only [Act.put, List.setIfInBounds_toArray, List.set_cons_zero, List.set_cons_succ]
  refine tk 12 (some 52) (Op.call { callee := Callee.builtin Builtin.len, args := #[Operand.tmp 51], argTypes := #[22] }) (some (8, false)) (.int .i64 (m : Int)) rfl (by kernel_rfl) (by kernel_rfl) (by rfl) (fun w hS => by (try dsimp only at hS); (try obtain ⟨hS, hT⟩ := hS); go_simp) hS ?_
  simp only [Act.put, List.setIfInBounds_toArray, List.set_cons_zero, List.set_cons_succ]
  refine tk 13 (some 53) (Op.move (Operand.tmp 7)) (some (8, false)) (.pointer (some ⟨g2, 0, none⟩)) rfl (by kernel_rfl) (by kernel_rfl) (by rfl) (fun w hS => by (try dsimp only at hS); (try obtain ⟨hS, hT⟩ := hS); go_simp) hS ?_
  simp only [Act.put, List.setIfInBounds_toArray, List.set_cons_zero, List.set_cons_succ]
  refine tk 14 (some 54) (Op.nilCheck (Operand.tmp 53)) (some (8, false)) (.pointer (some ⟨g2, 0, none⟩)) rfl (by kernel_rfl) (by kernel_rfl) (by rfl) (fun w hS => by (try dsimp only at hS); (try obtain ⟨hS, hT⟩ := hS); go_simp) hS ?_
  simp only [Act.put, List.setIfInBounds_toArray, List.set_cons_zero, List.set_cons_succ]
  refine tk 15 (some 55) (Op.fieldAddr 36 (Operand.tmp 54) 1) (some (8, false)) (.pointer (some ⟨g2, 1, none⟩)) rfl (by kernel_rfl) (by kernel_rfl) (by rfl) (fun w hS => by (try dsimp only at hS); (try obtain ⟨hS, hT⟩ := hS); go_simp) hS ?_
  simp only [Act.put, List.setIfInBounds_toArray, List.set_cons_zero, List.set_cons_succ]
  refine tk 16 (some 56) (Op.load 3 (Operand.tmp 55)) (some (8, false)) (.int .i64 (k' : Int)) rfl (by kernel_rfl) (by kernel_rfl) (by rfl) (fun w hS => by (try dsimp only at hS); (try obtain ⟨hS, hT⟩ := hS); go_simp) hS ?_
  simp only [Act.put, List.setIfInBounds_toArray, List.set_cons_zero, List.set_cons_succ]
  refine tk 17 (some 57) (Op.binOp BinOp.sub 3 (Operand.tmp 52) (Operand.tmp 56) 3) (some (8, false)) (.int .i64 ((m : Int) - (k' : Int))) rfl (by kernel_rfl) (by kernel_rfl) (by rfl) (fun w hS => by (try dsimp only at hS); (try obtain ⟨hS, hT⟩ := hS); go_simp) hS ?_
  simp only [Act.put, List.setIfInBounds_toArray, List.set_cons_zero, List.set_cons_succ]
  refine wpAnyH_ready (rs := [10]) (by kernel_rfl) (by simp) ?_
  refine AllReadyH.cons (o := ⟨some 50, Op.call { callee := Callee.value (Operand.func 18), args := #[Operand.tmp 49], argTypes := #[32] }, _, _, _, some (8, false)⟩) rfl (fun K hK => ?_) AllReadyH.nil
  go_simp
  refine (K18.out _ hF4).mono ?_
  rintro e w5 ⟨rfl, rfl⟩
  go_wp2_with fail
  refine hK.out _ _ hS (fun _ => ?_)
  clear hK K
  try simp only [Act.put, List.setIfInBounds_toArray, List.set_cons_zero, List.set_cons_succ]
  refine tk 18 (some 58) (Op.binOp BinOp.neq 3 (Operand.tmp 50) (Operand.tmp 57) 3) (some (8, false)) (.bool false) rfl (by kernel_rfl) (by kernel_rfl) (by rfl) (fun w hS => by (try dsimp only at hS); (try obtain ⟨hS, hT⟩ := hS); go_simp) hS ?_
  simp only [Act.put, List.setIfInBounds_toArray, List.set_cons_zero, List.set_cons_succ]
  refine tk 19 (some 59) (Op.pick (Operand.tmp 48) (Operand.const (Value.bool true)) (Operand.tmp 58)) (none) (.bool false) rfl (by kernel_rfl) (by kernel_rfl) (by rfl) (fun w hS => by (try dsimp only at hS); (try obtain ⟨hS, hT⟩ := hS); go_simp) hS ?_
  simp only [Act.put, List.setIfInBounds_toArray, List.set_cons_zero, List.set_cons_succ]
  refine tk 20 (some 60) (Op.move (Operand.tmp 59)) (none) (.bool false) rfl (by kernel_rfl) (by kernel_rfl) (by rfl) (fun w hS => by (try dsimp only at hS); (try obtain ⟨hS, hT⟩ := hS); go_simp) hS ?_
  simp only [Act.put, List.setIfInBounds_toArray, List.set_cons_zero, List.set_cons_succ]
  refine tk 21 (some 61) (Op.move (Operand.tmp 1)) (some (20, false)) (.slice (some ads) ns cs) rfl (by kernel_rfl) (by kernel_rfl) (by rfl) (fun w hS => by (try dsimp only at hS); (try obtain ⟨hS, hT⟩ := hS); go_simp) hS ?_
  simp only [Act.put, List.setIfInBounds_toArray, List.set_cons_zero, List.set_cons_succ]
  refine tk 22 (some 62) (Op.move (Operand.tmp 9)) (some (20, false)) (.int .i64 (j : Int)) rfl (by kernel_rfl) (by kernel_rfl) (by rfl) (fun w hS => by (try dsimp only at hS); (try obtain ⟨hS, hT⟩ := hS); go_simp) hS ?_
  simp only [Act.put, List.setIfInBounds_toArray, List.set_cons_zero, List.set_cons_succ]
  refine tk 23 (some 63) (Op.indexAddr 22 (Operand.tmp 61) (Operand.tmp 62)) (some (20, false)) (.pointer (some (ads.add j))) rfl (by kernel_rfl) (by kernel_rfl) (by rfl) (fun w hS => by (try dsimp only at hS); (try obtain ⟨hS, hT⟩ := hS); go_simp) hS ?_
  simp only [Act.put, List.setIfInBounds_toArray, List.set_cons_zero, List.set_cons_succ]
  refine tk 24 (some 64) (Op.load 3 (Operand.tmp 63)) (some (20, false)) (.int .i64 s) rfl (by kernel_rfl) (by kernel_rfl) (by rfl) (fun w hS => by (try dsimp only at hS); (try obtain ⟨hS, hT⟩ := hS); go_simp) hS ?_
  simp only [Act.put, List.setIfInBounds_toArray, List.set_cons_zero, List.set_cons_succ]
  refine tk 25 (some 65) (Op.binOp BinOp.gtr 3 (Operand.tmp 64) (Operand.const (Value.int IntKind.i64 0)) 3) (some (20, false)) (.bool false) rfl (by kernel_rfl) (by kernel_rfl) (by rfl) (fun w hS => by (try dsimp only at hS); (try obtain ⟨hS, hT⟩ := hS); go_simp) hS ?_
  simp only [Act.put, List.setIfInBounds_toArray, List.set_cons_zero, List.set_cons_succ]
  refine tk 26 (some 66) (Op.move (Operand.tmp 65)) (some (20, false)) (.bool false) rfl (by kernel_rfl) (by kernel_rfl) (by rfl) (fun w hS => by (try dsimp only at hS); (try obtain ⟨hS, hT⟩ := hS); go_simp) hS ?_
  simp only [Act.put, List.setIfInBounds_toArray, List.set_cons_zero, List.set_cons_succ]
  refine tkno 27 (some 67) (Op.move (Operand.tmp 10)) (some (26, true)) rfl (by kernel_rfl) (by kernel_rfl) (by rfl) hS ?_
  simp only [Act.put, List.setIfInBounds_toArray, List.set_cons_zero, List.set_cons_succ]
  refine tkno 28 (some 68) (Op.binOp BinOp.lss 2 (Operand.tmp 67) (Operand.const (Value.int IntKind.i64 1)) 2) (some (26, true)) rfl (by kernel_rfl) (by kernel_rfl) (by rfl) hS ?_
  simp only [Act.put, List.setIfInBounds_toArray, List.set_cons_zero, List.set_cons_succ]
  refine tkno 29 (some 69) (Op.move (Operand.tmp 68)) (some (26, true)) rfl (by kernel_rfl) (by kernel_rfl) (by rfl) hS ?_
  simp only [Act.put, List.setIfInBounds_toArray, List.set_cons_zero, List.set_cons_succ]
  refine tkno 30 (some 70) (Op.move (Operand.tmp 10)) (some (29, false)) rfl (by kernel_rfl) (by kernel_rfl) (by rfl) hS ?_
  simp only [Act.put, List.setIfInBounds_toArray, List.set_cons_zero, List.set_cons_succ]
  refine tkno 31 (some 71) (Op.move (Operand.tmp 1)) (some (29, false)) rfl (by kernel_rfl) (by kernel_rfl) (by rfl) hS ?_
  simp only [Act.put, List.setIfInBounds_toArray, List.set_cons_zero, List.set_cons_succ]
  refine tkno 32 (some 72) (Op.move (Operand.tmp 9)) (some (29, false)) rfl (by kernel_rfl) (by kernel_rfl) (by rfl) hS ?_
  simp only [Act.put, List.setIfInBounds_toArray, List.set_cons_zero, List.set_cons_succ]
  refine tkno 33 (some 73) (Op.indexAddr 22 (Operand.tmp 71) (Operand.tmp 72)) (some (29, false)) rfl (by kernel_rfl) (by kernel_rfl) (by rfl) hS ?_
  simp only [Act.put, List.setIfInBounds_toArray, List.set_cons_zero, List.set_cons_succ]
  refine tkno 34 (some 74) (Op.load 3 (Operand.tmp 73)) (some (29, false)) rfl (by kernel_rfl) (by kernel_rfl) (by rfl) hS ?_
  simp only [Act.put, List.setIfInBounds_toArray, List.set_cons_zero, List.set_cons_succ]
  refine tkno 35 (some 75) (Op.binOp BinOp.gtr 2 (Operand.tmp 70) (Operand.tmp 74) 2) (some (29, false)) rfl (by kernel_rfl) (by kernel_rfl) (by rfl) hS ?_
  simp only [Act.put, List.setIfInBounds_toArray, List.set_cons_zero, List.set_cons_succ]
  refine tkno 36 (some 76) (Op.pick (Operand.tmp 69) (Operand.const (Value.bool true)) (Operand.tmp 75)) (some (26, true)) rfl (by kernel_rfl) (by kernel_rfl) (by rfl) hS ?_
  simp only [Act.put, List.setIfInBounds_toArray, List.set_cons_zero, List.set_cons_succ]
  refine tk 37 (some 77) (Op.pick (Operand.tmp 66) (Operand.tmp 76) (Operand.const (Value.bool false))) (some (20, false)) (.bool false) rfl (by kernel_rfl) (by kernel_rfl) (by rfl) (fun w hS => by (try dsimp only at hS); (try obtain ⟨hS, hT⟩ := hS); go_simp) hS ?_
  simp only [Act.put, List.setIfInBounds_toArray, List.set_cons_zero, List.set_cons_succ]
  refine tk 38 (some 78) (Op.pick (Operand.tmp 60) (Operand.const (Value.bool true)) (Operand.tmp 77)) (none) (.bool false) rfl (by kernel_rfl) (by kernel_rfl) (by rfl) (fun w hS => by (try dsimp only at hS); (try obtain ⟨hS, hT⟩ := hS); go_simp) hS ?_
  simp only [Act.put, List.setIfInBounds_toArray, List.set_cons_zero, List.set_cons_succ]
  refine tk 39 (some 79) (Op.move (Operand.tmp 78)) (none) (.bool false) rfl (by kernel_rfl) (by kernel_rfl) (by rfl) (fun w hS => by (try dsimp only at hS); (try obtain ⟨hS, hT⟩ := hS); go_simp) hS ?_
  simp only [Act.put, List.setIfInBounds_toArray, List.set_cons_zero, List.set_cons_succ]
  refine tk 40 (some 80) (Op.move (Operand.tmp 8)) (some (39, false)) (.pointer none) rfl (by kernel_rfl) (by kernel_rfl) (by rfl) (fun w hS => by (try dsimp only at hS); (try obtain ⟨hS, hT⟩ := hS); go_simp) hS ?_
  simp only [Act.put, List.setIfInBounds_toArray, List.set_cons_zero, List.set_cons_succ]
  refine tk 41 (some 81) (Op.move (Operand.tmp 1)) (some (39, false)) (.slice (some ads) ns cs) rfl (by kernel_rfl) (by kernel_rfl) (by rfl) (fun w hS => by (try dsimp only at hS); (try obtain ⟨hS, hT⟩ := hS); go_simp) hS ?_
  simp only [Act.put, List.setIfInBounds_toArray, List.set_cons_zero, List.set_cons_succ]
  refine tk 42 (some 82) (Op.move (Operand.tmp 9)) (some (39, false)) (.int .i64 (j : Int)) rfl (by kernel_rfl) (by kernel_rfl) (by rfl) (fun w hS => by (try dsimp only at hS); (try obtain ⟨hS, hT⟩ := hS); go_simp) hS ?_
  simp only [Act.put, List.setIfInBounds_toArray, List.set_cons_zero, List.set_cons_succ]
  refine tk 43 (some 83) (Op.indexAddr 22 (Operand.tmp 81) (Operand.tmp 82)) (some (39, false)) (.pointer (some (ads.add j))) rfl (by kernel_rfl) (by kernel_rfl) (by rfl) (fun w hS => by (try dsimp only at hS); (try obtain ⟨hS, hT⟩ := hS); go_simp) hS ?_
  simp only [Act.put, List.setIfInBounds_toArray, List.set_cons_zero, List.set_cons_succ]
  refine tk 44 (some 84) (Op.load 3 (Operand.tmp 83)) (some (39, false)) (.int .i64 s) rfl (by kernel_rfl) (by kernel_rfl) (by rfl) (fun w hS => by (try dsimp only at hS); (try obtain ⟨hS, hT⟩ := hS); go_simp) hS ?_
  simp only [Act.put, List.setIfInBounds_toArray, List.set_cons_zero, List.set_cons_succ]
  refine tk 46 (some 86) (Op.move (Operand.tmp 1)) (some (39, false)) (.slice (some ads) ns cs) rfl (by kernel_rfl) (by kernel_rfl) (by rfl) (fun w hS => by (try dsimp only at hS); (try obtain ⟨hS, hT⟩ := hS); go_simp) hS ?_
  simp only [Act.put, List.setIfInBounds_toArray, List.set_cons_zero, List.set_cons_succ]
  refine tk 47 (some 87) (Op.move (Operand.tmp 9)) (some (39, false)) (.int .i64 (j : Int)) rfl (by kernel_rfl) (by kernel_rfl) (by rfl) (fun w hS => by (try dsimp only at hS); (try obtain ⟨hS, hT⟩ := hS); go_simp) hS ?_
  simp only [Act.put, List.setIfInBounds_toArray, List.set_cons_zero, List.set_cons_succ]
  refine tk 48 (some 88) (Op.indexAddr 22 (Operand.tmp 86) (Operand.tmp 87)) (some (39, false)) (.pointer (some (ads.add j))) rfl (by kernel_rfl) (by kernel_rfl) (by rfl) (fun w hS => by (try dsimp only at hS); (try obtain ⟨hS, hT⟩ := hS); go_simp) hS ?_
  simp only [Act.put, List.setIfInBounds_toArray, List.set_cons_zero, List.set_cons_succ]
  refine tk 49 (some 89) (Op.load 3 (Operand.tmp 88)) (some (39, false)) (.int .i64 s) rfl (by kernel_rfl) (by kernel_rfl) (by rfl) (fun w hS => by (try dsimp only at hS); (try obtain ⟨hS, hT⟩ := hS); go_simp) hS ?_
  simp only [Act.put, List.setIfInBounds_toArray, List.set_cons_zero, List.set_cons_succ]
  refine tk 50 (some 90) (Op.call { callee := Callee.builtin Builtin.max, args := #[Operand.const (Value.int IntKind.i64 0), Operand.tmp 89], argTypes := #[3, 3] }) (some (39, false)) (.int .i64 0) rfl (by kernel_rfl) (by kernel_rfl) (by rfl) (fun w hS => by (try dsimp only at hS); (try obtain ⟨hS, hT⟩ := hS); go_simp; omega) hS ?_
  simp only [Act.put, List.setIfInBounds_toArray, List.set_cons_zero, List.set_cons_succ]
  refine tk 51 (some 91) (Op.call { callee := Callee.builtin Builtin.min, args := #[Operand.const (Value.int IntKind.i64 1), Operand.tmp 90], argTypes := #[2, 2] }) (some (39, false)) (.int .i64 0) rfl (by kernel_rfl) (by kernel_rfl) (by rfl) (fun w hS => by (try dsimp only at hS); (try obtain ⟨hS, hT⟩ := hS); go_simp) hS ?_
  simp only [Act.put, List.setIfInBounds_toArray, List.set_cons_zero, List.set_cons_succ]
  refine wpAnyH_ready (rs := [45]) (by kernel_rfl) (by simp) ?_
  refine AllReadyH.cons (o := ⟨some 85, Op.call { callee := Callee.value (Operand.func 16), args := #[Operand.tmp 80, Operand.tmp 84], argTypes := #[32, 3] }, _, _, _, some (39, false)⟩) rfl (fun K hK => ?_) AllReadyH.nil
  go_simp
  refine (K16.out _).mono ?_
  rintro e w5 ⟨rfl, rfl⟩
  go_wp2_with fail
  refine hK.out _ _ hS (fun _ => ?_)
  clear hK K
  try simp only [Act.put, List.setIfInBounds_toArray, List.set_cons_zero, List.set_cons_succ]
  refine tk 52 (some 92) (Op.binOp BinOp.neq 2 (Operand.tmp 85) (Operand.tmp 91) 2) (some (39, false)) (.bool false) rfl (by kernel_rfl) (by kernel_rfl) (by rfl) (fun w hS => by (try dsimp only at hS); (try obtain ⟨hS, hT⟩ := hS); go_simp) hS ?_
  simp only [Act.put, List.setIfInBounds_toArray, List.set_cons_zero, List.set_cons_succ]
  refine tk 53 (some 93) (Op.pick (Operand.tmp 79) (Operand.const (Value.bool true)) (Operand.tmp 92)) (none) (.bool false) rfl (by kernel_rfl) (by kernel_rfl) (by rfl) (fun w hS => by (try dsimp only at hS); (try obtain ⟨hS, hT⟩ := hS); go_simp) hS ?_
  simp only [Act.put, List.setIfInBounds_toArray, List.set_cons_zero, List.set_cons_succ]
  exact wpAnyH_done (by kernel_rfl) (hR.out _ hF4) _

end Go.Proofs.Ytnkbkkbpmjemiaa

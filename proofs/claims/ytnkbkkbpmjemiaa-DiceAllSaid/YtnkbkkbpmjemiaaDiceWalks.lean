/- What the dice do: a cup is made, thrown, counted; the reference's cup is thrown. Conditions: the throws read as numbers of 64 bits. -/
import Derived.Test.YtnkbkkbpmjemiaaOwn
import Derived.Lib.Hide
import Derived.RegionTactic
import Derived.ChangeAlike
import Derived.Deep.QuietTactic
import Derived.BigQuiet
import Derived.OneCell
namespace Go.Proofs.Ytnkbkkbpmjemiaa
open Go.RowKit

/-- Numbers that are read at A. -/
def IRead (w : World) (A : Option Addr) (l : List Int) : Prop :=
  ∀ i : Nat, i < l.length → ∃ ad, A = some ad ∧ w.cell? (ad.add i) = some (.int .i64 (l.getD i 0))
def I64 (l : List Int) : Prop := ∀ x ∈ l, -9223372036854775808 ≤ x ∧ x ≤ 9223372036854775807
theorem IRead.below {w w1 : World} {A : Option Addr} {l : List Int} (h : IRead w A l) (hb : Below w.heap.size w w1) : IRead w1 A l := by
  intro i hi
  obtain ⟨ad, rfl, hc⟩ := h i hi
  exact ⟨ad, rfl, (hb.cell (World.block_lt_of_cell? w _ hc)).trans hc⟩
theorem IRead.nil (w : World) (A : Option Addr) : IRead w A [] := fun _ hi => absurd hi (Nat.not_lt_zero _)
theorem IRead.take {w : World} {A : Option Addr} {l : List Int} (h : IRead w A l) (m : Nat) : IRead w A (l.take m) := by
  intro i hi
  have hi' : i < l.length := by simp at hi; omega
  have e : (l.take m).getD i 0 = l.getD i 0 := by rw [getD_eq _ _ _ hi, getD_eq _ _ _ hi', List.getElem_take]
  rw [e]
  exact h i hi'
def intV (x : Int) : Value := .int .i64 x
theorem own_iread {w : World} {base n : Nat} {e : TypeId} {v : Value} {l : List Int} (h : w.ownsRow base e 1 v n (l.map intV)) : ∃ A c, v = .slice A n c ∧ n ≤ c ∧ c ≤ maxLen ∧ l.length = n ∧ IRead w A l := by
  have hl : l.length = n := by have := h.1; simp at this; exact this
  obtain ⟨A, c, rfl, hn, hc, hr⟩ := own_form h
  refine ⟨A, c, rfl, hn, hc, hl, fun i hi => ?_⟩
  rw [getD_eq l i 0 hi]
  exact hr i _ (by rw [List.getElem?_map, List.getElem?_eq_getElem hi]; rfl)
theorem Try.inf3 : (Try.prog.info? 3).map (fun i => (i.zero, i.size, i.bytes)) = some (some (.int .i64 0), 1, 8) := by kernel_rfl

/-- Numbers are appended to a row of the call's own. -/
theorem append_ints {w : World} {ops : Array Oper} {rest : List Oper} {o : Oper} {a : Act} {Q : Exit → Act → World → Prop} (hgd : o.guard = none) (s x : Operand)
    (ho : o.op = .call { callee := .builtin .append, args := #[s, x], argTypes := #[22, 22] })
    (base : Nat) (v : Value) (n : Nat) (xs : List Value) (hs : a.eval s = v) (hown : w.ownsRow base 3 1 v n xs)
    (ad : Addr) (m c : Nat) (l' : List Int) (hx : a.eval x = .slice (some ad) m c) (hl : l'.length = m) (hr : IRead w (some ad) l')
    (h63 : n + m ≤ maxLen) (hbytes : (n + m) * 8 ≤ 140737488355328) (hbase : base ≤ w.heap.size)
    (h : ∀ v' w', w'.ownsRow base 3 1 v' (n + m) (xs ++ l'.map intV) → w.grownBy w' v.ownBlock → wpList Try.prog ops Q rest (a.put o.dst v') w') : wpList Try.prog ops Q (o :: rest) a w := by
  obtain ⟨i0, hi, hz0, hz1, hz2⟩ := info_parts Try.inf3
  refine wpList_append_own w hgd s x 22 ho base 3 i0 (.int .i64 0) 1 8 Try.underlying22 hi hz0 hz1 hz2 rfl (by decide) v n _ hs hown ad m c (l'.map intV) hx (by rw [List.length_map, hl, Nat.mul_one]) ?_ ?_ h63 hbytes hbase ?_
  · intro j u hu
    rw [List.getElem?_map] at hu
    have hj : j < l'.length := by
      rcases Nat.lt_or_ge j l'.length with h1 | h1
      · exact h1
      · rw [List.getElem?_eq_none h1] at hu; cases hu
    obtain ⟨ad', e, hc⟩ := hr j hj
    cases e
    rw [hc]
    rw [List.getElem?_eq_getElem hj] at hu
    rw [getD_eq l' j 0 hj]
    exact hu
  · intro u hu
    obtain ⟨z, _, rfl⟩ := List.mem_map.1 hu
    rfl
  · intro v' w' h1 h2 _
    exact h v' w' h1 h2

set_option maxHeartbeats 400000 in
theorem clone_some (ad : Addr) (n c : Nat) (l : List Int) (w : World) (hl : l.length = n) (hn : n ≤ 30) (hr : IRead w (some ad) l) :
    Calls Try.prog 26 #[.slice (some ad) n c] w fun e w' => ∃ v, e = .returned v ∧ w'.ownsRow w.heap.size 3 1 v n (l.map intV) ∧ Below w.heap.size w w' := by
  have hq := fun w => Lib.run_eql_slice_nil (P := Try.prog) w 22 3 (some ad) n c 0 0 Try.underlying22
  have HR := Lib.hid hr
  have HL := Lib.hid hl
  clear hr hl
  have HB0 : Hid (w.heap.size ≤ (w.alloc (.cells #[] 3)).heap.size) := Lib.hid (by simp)
  have HW0 : Hid ((w.alloc (.cells #[] 3)).ownsRow w.heap.size 3 1 (.slice (some ⟨w.heap.size, 0, none⟩) 0 0) 0 []) := Lib.hid (World.ownsRow_lit w #[] 0 (Nat.le_refl _) (by decide) rfl)
  have HR1 : Hid (IRead (w.alloc (.cells #[] 3)) (some ad) l) := Lib.hid (HR.out.below ((Below.refl _ _).alloc (Nat.le_refl _) _))
  have HB : Hid (Below w.heap.size w (w.alloc (.cells #[] 3))) := Lib.hid ((Below.refl _ _).alloc (Nat.le_refl _) _)
  go_enter Try.func26, Try.ntmps26
  go_wp2_with (at_builtin; go_must (refine append_ints rfl (.tmp 5) (.tmp 6) rfl w.heap.size _ 0 [] rfl HW0.out ad n c l rfl HL.out HR1.out (by unfold maxLen; omega) (by omega) HB0.out ?_; intro v2 w2 hown2 hg2; have HO2 := Lib.hid hown2; have HG2 := Lib.hid hg2; clear hown2 hg2))
  go_ret
  exact ⟨_, rfl, by have h := HO2.out; simp only [Nat.zero_add, List.nil_append] at h; exact h, HB.out.grown HG2.out HB0.out (own_lo HW0.out)⟩
theorem clone_any (A : Option Addr) (n c : Nat) (l : List Int) (w : World) (hl : l.length = n) (hn : n ≤ 30) (hA : A = none → c = 0 ∧ n = 0) (hr : IRead w A l) :
    Calls Try.prog 26 #[.slice A n c] w fun e w' => ∃ A' c', e = .returned (.slice A' n c') ∧ n ≤ c' ∧ c' ≤ 9223372036854775807 ∧ IRead w' A' l ∧ Below w.heap.size w w' := by
  cases A with
  | none =>
    obtain ⟨rfl, rfl⟩ := hA rfl
    have hl0 : l = [] := List.length_eq_zero_iff.1 hl
    subst hl0
    have hq := fun w => Lib.run_eql_slice_nil (P := Try.prog) w 22 3 none 0 0 0 0 Try.underlying22
    go_enter Try.func26, Try.ntmps26
    go_wp2_with fail
    go_ret
    exact ⟨_, _, rfl, Nat.zero_le _, IRead.nil _ _, Below.refl _ _⟩
  | some ad =>
    refine (clone_some ad n c l w hl hn hr).mono ?_
    rintro e w' ⟨v, rfl, ho, hb⟩
    obtain ⟨A', c', rfl, h1, h2, _, h3⟩ := own_iread ho
    exact ⟨A', c', rfl, h1, h2, h3, hb⟩

theorem iread_lt {w : World} {A : Option Addr} {l : List Int} (h : IRead w A l) : ∀ ad, A = some ad → 0 < l.length → ad.block < w.heap.size := by
  intro ad e hl
  subst e
  obtain ⟨ad', e, hc⟩ := h 0 hl
  cases e
  exact World.block_lt_of_cell? w _ hc
/-- A cup: its one cell holds the throws that are left. -/
def CupAt (w : World) (g : Nat) (l : List Int) : Prop := ∃ A c, w.heap[g]? = some (.cells #[.slice A l.length c] 50) ∧ l.length ≤ c ∧ c ≤ 9223372036854775807 ∧ (∀ ad, A = some ad → 0 < l.length → ad.block < g) ∧ IRead w A l

set_option maxHeartbeats 400000 in
theorem new_any (A : Option Addr) (n c : Nat) (l : List Int) (w : World) (hl : l.length = n) (hn : n ≤ 30) (hA : A = none → c = 0 ∧ n = 0) (hr : IRead w A l) :
    Calls Try.prog 15 #[.slice A n c] w fun e w' => ∃ g, e = .returned (.pointer (some ⟨g, 0, none⟩)) ∧ w.heap.size ≤ g ∧ CupAt w' g l ∧ Below w.heap.size w w' := by
  subst hl
  have HR := Lib.hid hr
  have HA := Lib.hid hA
  clear hr hA
  go_enter Try.func15, Try.ntmps15
  go_wp2_with (go_at_call 26; refine (clone_any A _ c l _ rfl hn HA.out HR.out).mono ?_; rintro e w2 ⟨A2, c2, rfl, h1, h2, h3, hb⟩; have H3 := Lib.hid h3; have HB := Lib.hid hb; clear h3 hb)
  go_ret
  exact ⟨_, rfl, HB.out.size, ⟨A2, c2, alloc_at _ _, h1, h2, iread_lt H3.out, H3.out.below ((Below.refl _ _).alloc (Nat.le_refl _) _)⟩, HB.out.alloc HB.out.size _⟩

set_option maxHeartbeats 400000 in
theorem left_nil (w : World) : Calls Try.prog 18 #[.pointer none] w fun e w' => e = .returned (.int .i64 0) ∧ w = w' := by
  go_enter Try.func18, Try.ntmps18
  go_wp2
  go_ret
  exact ⟨rfl, rfl⟩
set_option maxHeartbeats 400000 in
theorem left_any (g : Nat) (l : List Int) (w : World) (h : CupAt w g l) : Calls Try.prog 18 #[.pointer (some ⟨g, 0, none⟩)] w fun e w' => e = .returned (.int .i64 l.length) ∧ w = w' := by
  obtain ⟨A, c, hg, h1, h2, _, _⟩ := h
  have hc : w.cell? ⟨g, 0, none⟩ = some (.slice A l.length c) := by rw [cell_of_row _ _ _ _ _ _ hg]; rfl
  clear hg
  go_enter Try.func18, Try.ntmps18
  go_wp2
  go_ret
  exact ⟨rfl, rfl⟩

/-- What a throw tells. -/
def rollV (l : List Int) (s : Int) : Int := if s < 1 then 0 else match l with
  | [] => 1
  | x :: _ => x % s + 1

set_option maxHeartbeats 400000 in
theorem roll_low (p : Option Addr) (s : Int) (w : World) (h : s < 1) : Calls Try.prog 16 #[.pointer p, .int .i64 s] w fun e w' => e = .returned (.int .i64 0) ∧ w = w' := by
  go_enter Try.func16, Try.ntmps16
  go_wp2
  go_ret
  exact ⟨rfl, rfl⟩
set_option maxHeartbeats 400000 in
theorem roll_nil (s : Int) (w : World) (h : 1 ≤ s) : Calls Try.prog 16 #[.pointer none, .int .i64 s] w fun e w' => e = .returned (.int .i64 1) ∧ w = w' := by
  go_enter Try.func16, Try.ntmps16
  go_wp2
  go_ret
  exact ⟨rfl, rfl⟩
set_option maxHeartbeats 400000 in
theorem roll_end (g : Nat) (s : Int) (w : World) (h : 1 ≤ s) (hc : CupAt w g []) : Calls Try.prog 16 #[.pointer (some ⟨g, 0, none⟩), .int .i64 s] w fun e w' => e = .returned (.int .i64 1) ∧ w = w' := by
  obtain ⟨A, c, hg, h1, h2, _, _⟩ := hc
  have hc : w.cell? ⟨g, 0, none⟩ = some (.slice A 0 c) := by rw [cell_of_row _ _ _ _ _ _ hg]; rfl
  clear hg
  go_enter Try.func16, Try.ntmps16
  go_wp2
  go_ret
  exact ⟨rfl, rfl⟩
theorem add_block (ad : Addr) (i : Nat) : (ad.add i).block = ad.block := by unfold Addr.add; split <;> rfl
theorem add_zero (ad : Addr) : ad.add 0 = ad := rfl
theorem add_succ (ad : Addr) (i : Nat) : ad.add (i + 1) = ⟨ad.block, ad.off + 1 + i, none⟩ := by
  unfold Addr.add
  simp; omega
/-- Where a cup's cell turned, the numbers stand. -/
theorem iread_set {w : World} {g : Nat} {v : Value} {t : TypeId} (h : w.heap[g]? = some (.cells #[v] t)) (hv : ∀ x, v ≠ .int .i64 x) (u : Value) {A : Option Addr} {l : List Int} (hr : IRead w A l) : IRead (w.setCell ⟨g, 0, none⟩ u) A l := by
  intro i hi
  obtain ⟨ad, rfl, hc⟩ := hr i hi
  refine ⟨ad, rfl, ?_⟩
  have hne : (ad.add i).block ≠ g := by
    intro e
    have hb := hc
    unfold World.cell? at hb
    rw [e, h] at hb
    simp at hb
    obtain ⟨_, hb⟩ := hb
    cases ho : (ad.add i).off with
    | zero => rw [ho] at hb; simp at hb; exact hv _ hb
    | succ k => rw [ho] at hb; simp at hb
  rw [← hc]
  exact World.cell?_of_block (Below.heap_setCell w _ u _ hne)

theorem tmod_neg {x s : Int} (hx : x < 0) (hs : 1 ≤ s) : (x.tmod s < 0 ∧ x % s = x.tmod s + s ∧ -s < x.tmod s) ∨ (x.tmod s = 0 ∧ x % s = 0) := by
  have h1 : x.tmod s = -((-x) % s) := by
    have : x = -(-x) := by omega
    rw [this, Int.neg_tmod, Int.tmod_eq_emod_of_nonneg (by omega)]; simp
  have h2 := Int.emod_nonneg (-x) (by omega : s ≠ 0)
  have h3 := Int.emod_lt_of_pos (-x) (by omega : 0 < s)
  have h4 := Int.emod_add_mul_ediv (-x) s
  by_cases h0 : (-x) % s = 0
  · right
    refine ⟨by rw [h1, h0]; rfl, ?_⟩
    rw [h0] at h4
    have : x = s * (-((-x) / s)) := by rw [Int.mul_neg]; omega
    rw [this]
    exact Int.mul_emod_right _ _
  · left
    refine ⟨by omega, ?_, by omega⟩
    have e : x = (s - (-x) % s) + s * (-((-x) / s) - 1) := by rw [Int.mul_sub, Int.mul_neg]; omega
    have e2 : x % s = (s - (-x) % s) % s := by
      conv => lhs; rw [e]
      rw [Int.add_mul_emod_self_left]
    rw [e2, Int.emod_eq_of_lt (by omega) (by omega), h1]
    omega
/-- The cup behind a throw. -/
theorem cup_next {w : World} {g c : Nat} {x : Int} {l : List Int} {ad : Addr} (hg : w.heap[g]? = some (.cells #[.slice (some ad) (x :: l).length c] 50)) (h1 : l.length + 1 ≤ c) (h2 : c ≤ 9223372036854775807) (hb : ad.block < g) (hr : IRead w (some ad) (x :: l)) :
    (c = 1 → CupAt (w.setCell ⟨g, 0, none⟩ (.slice (some ad) l.length 0)) g l) ∧ (c ≠ 1 → CupAt (w.setCell ⟨g, 0, none⟩ (.slice (some ⟨ad.block, ad.off + 1, none⟩) l.length (c - 1))) g l) := by
  constructor
  · intro hc
    have hl : l = [] := List.length_eq_zero_iff.1 (by omega)
    subst hl
    exact ⟨_, _, one_setCell hg, Nat.le_refl _, Nat.zero_le _, (fun _ _ h => absurd h (Nat.lt_irrefl 0)), IRead.nil _ _⟩
  · intro hc
    refine ⟨_, _, one_setCell hg, by omega, by omega, (fun _ e _ => by cases e; exact hb), ?_⟩
    refine iread_set hg (fun _ h => by cases h) _ ?_
    intro i hi
    obtain ⟨ad', e, h⟩ := hr (i + 1) (by simpa using hi)
    cases e
    refine ⟨_, rfl, ?_⟩
    rw [add_succ] at h
    rw [add_at, h]
    simp

theorem ret_i64 {a b : Int} (h : a = b) : Ending.returned (.int .i64 a) = .returned (.int .i64 b) := by rw [h]
/-- A throw was told, and the cup turned. -/
def Rolled (w : World) (g : Nat) (l : List Int) (v : Int) (e : Ending) (w' : World) : Prop := e = .returned (.int .i64 v) ∧ (∃ u, w' = w.setCell ⟨g, 0, none⟩ u) ∧ CupAt w' g l

set_option maxHeartbeats 400000 in
theorem roll_some (g : Nat) (s x : Int) (l : List Int) (w : World) (h : 1 ≤ s) (hs : s ≤ 9223372036854775807) (hx : -9223372036854775808 ≤ x ∧ x ≤ 9223372036854775807) (hc : CupAt w g (x :: l)) :
    Calls Try.prog 16 #[.pointer (some ⟨g, 0, none⟩), .int .i64 s] w (Rolled w g l (x % s + 1)) := by
  obtain ⟨A, c, hg, h1, h2, hb, hr⟩ := hc
  obtain ⟨ad, rfl, hx0⟩ := hr 0 (by simp)
  have hc : w.cell? ⟨g, 0, none⟩ = some (.slice (some ad) (l.length + 1) c) := cell_of_one hg
  have hf : w.frozen? ⟨g, 0, none⟩ = false := free_of_one hg
  have hx1 : w.cell? ad = some (.int .i64 x) := hx0
  have h00 : (((l.length : Int) + 1) == 0) = false := by rw [beq_eq_false_iff_ne]; omega
  have h1' : l.length + 1 ≤ c := h1
  have HN := Lib.hid (cup_next hg h1' h2 (hb ad rfl (by simp)) hr)
  clear hr hg hx0 h1 hb
  obtain ⟨hxl, hxh⟩ := hx
  by_cases hc1 : c = 1
  · obtain rfl : l = [] := List.length_eq_zero_iff.1 (by omega)
    subst hc1
    have HN1 := Lib.hid (HN.out.1 rfl)
    clear HN h00
    have h00 : ((1 : Int) == 0) = false := rfl
    by_cases h0 : 0 ≤ x
    · have m1 := Int.emod_nonneg x (by omega : s ≠ 0)
      have m2 := Int.emod_lt_of_pos x (by omega : 0 < s)
      go_enter Try.func16, Try.ntmps16
      go_wp2
      go_ret
      exact ⟨rfl, ⟨_, rfl⟩, HN1.out⟩
    · have HM := Lib.hid (tmod_neg (by omega : x < 0) h)
      rcases HM.out with ⟨m1, m2, m3⟩ | ⟨m1, m2⟩
      · have HM2 := Lib.hid m2
        clear m2
        go_enter Try.func16, Try.ntmps16
        go_wp2
        go_ret
        exact ⟨ret_i64 (by rw [HM2.out]), ⟨_, rfl⟩, HN1.out⟩
      · have HM2 := Lib.hid m2
        clear m2
        go_enter Try.func16, Try.ntmps16
        go_wp2
        go_ret
        exact ⟨ret_i64 (by rw [HM2.out]; rfl), ⟨_, rfl⟩, HN1.out⟩
  · have HN1 := Lib.hid (HN.out.2 hc1)
    clear HN
    by_cases h0 : 0 ≤ x
    · have m1 := Int.emod_nonneg x (by omega : s ≠ 0)
      have m2 := Int.emod_lt_of_pos x (by omega : 0 < s)
      go_enter Try.func16, Try.ntmps16
      go_wp2
      go_ret
      exact ⟨rfl, ⟨_, rfl⟩, HN1.out⟩
    · have HM := Lib.hid (tmod_neg (by omega : x < 0) h)
      rcases HM.out with ⟨m1, m2, m3⟩ | ⟨m1, m2⟩
      · have HM2 := Lib.hid m2
        clear m2
        go_enter Try.func16, Try.ntmps16
        go_wp2
        go_ret
        exact ⟨ret_i64 (by rw [HM2.out]), ⟨_, rfl⟩, HN1.out⟩
      · have HM2 := Lib.hid m2
        clear m2
        go_enter Try.func16, Try.ntmps16
        go_wp2
        go_ret
        exact ⟨ret_i64 (by rw [HM2.out]; rfl), ⟨_, rfl⟩, HN1.out⟩

theorem set_grown (w : World) (a : Addr) (u : Value) : w.grownBy (w.setCell a u) (some a.block) :=
  ⟨rfl, rfl, rfl, by simp [World.setCell], fun k _ hk => Below.heap_setCell w a u k (fun e => hk (by rw [e]))⟩
theorem CupAt.kept {w w' : World} {g g' : Nat} {l : List Int} (h : CupAt w g l) (hg : w.grownBy w' (some g')) (hlt : g < g') : CupAt w' g l := by
  obtain ⟨A, c, hh, h1, h2, h3, hr⟩ := h
  refine ⟨A, c, (hg.block g (heap_lt hh) (by simp; omega)).trans hh, h1, h2, h3, ?_⟩
  intro i hi
  obtain ⟨ad, rfl, hc⟩ := hr i hi
  have hb := h3 ad rfl (by omega)
  refine ⟨ad, rfl, hg.cell hc ?_⟩
  rw [add_block]
  simp
  omega
/-- The reference's cup: its list and how far it was taken. -/
def RefAt (w : World) (g : Nat) (A : Option Addr) (n c k : Nat) : Prop := w.heap[g]? = some (.cells #[.slice A n c, .int .i64 k] 36)
theorem two_cells {w : World} {g : Nat} {u v : Value} {t : TypeId} (h : w.heap[g]? = some (.cells #[u, v] t)) : w.cell? ⟨g, 0, none⟩ = some u ∧ w.cell? ⟨g, 1, none⟩ = some v ∧ w.frozen? ⟨g, 1, none⟩ = false := by
  simp [World.cell?, World.frozen?, h]

/-- A throw of the reference's cup that leaves memory alone. -/
def Quiet (w : World) (v : Int) (e : Ending) (w' : World) : Prop := e = .returned (.int .i64 v) ∧ ∃ k, w' = w.drewN k
set_option maxHeartbeats 400000 in
theorem refroll_low (p : Option Addr) (s : Int) (w : World) (h : s < 1) : Calls Try.prog 17 #[.pointer p, .int .i64 s] w fun e w' => e = .returned (.int .i64 0) ∧ w = w' := by
  go_enter Try.func17, Try.ntmps17
  go_wp2
  go_ret
  exact ⟨rfl, rfl⟩
set_option maxHeartbeats 400000 in
theorem refroll_end (g : Nat) (s : Int) (A : Option Addr) (n c k : Nat) (w : World) (h : 1 ≤ s) (hk : n ≤ k) (hc : RefAt w g A n c k) : Calls Try.prog 17 #[.pointer (some ⟨g, 0, none⟩), .int .i64 s] w (Quiet w 1) := by
  obtain ⟨h1, h2, h3⟩ := two_cells hc
  go_enter Try.func17, Try.ntmps17
  go_wp2
  go_quiet (fail)
  go_wp2
  go_ret
  exact ⟨rfl, ⟨_, rfl⟩⟩

/-- A throw of the reference's cup. -/
def RefRolled (w : World) (g : Nat) (k : Nat) (v : Int) (e : Ending) (w' : World) : Prop := e = .returned (.int .i64 v) ∧ ∃ j, w' = (w.drewN j).setCell ⟨g, 1, none⟩ (.int .i64 ((k : Int) + 1))
set_option maxHeartbeats 1000000 in
theorem refroll_some (g : Nat) (s x : Int) (ad : Addr) (n c k : Nat) (w : World) (h : 1 ≤ s) (hs : s ≤ 9223372036854775807) (hx : -9223372036854775808 ≤ x ∧ x ≤ 9223372036854775807) (hk : k < n) (hn : n ≤ 30) (hc : RefAt w g (some ad) n c k) (hcell : w.cell? (ad.add k) = some (.int .i64 x)) :
    Calls Try.prog 17 #[.pointer (some ⟨g, 0, none⟩), .int .i64 s] w (RefRolled w g k (x % s + 1)) := by
  obtain ⟨h1, h2, h3⟩ := two_cells hc
  clear hc
  obtain ⟨hxl, hxh⟩ := hx
  have k0 : (0 : Int) ≤ (k : Int) := by omega
  have k1 : (k : Int) < (n : Int) := by omega
  by_cases h0 : 0 ≤ x
  · have m1 := Int.emod_nonneg x (by omega : s ≠ 0)
    have m2 := Int.emod_lt_of_pos x (by omega : 0 < s)
    go_enter Try.func17, Try.ntmps17
    go_wp2
    go_quiet (fail)
    go_wp2
    go_quiet (fail)
    go_wp2
    go_ret
    exact ⟨rfl, ⟨_, rfl⟩⟩
  · have HM := Lib.hid (tmod_neg (by omega : x < 0) h)
    rcases HM.out with ⟨m1, m2, m3⟩ | ⟨m1, m2⟩
    · have HM2 := Lib.hid m2
      clear m2
      go_enter Try.func17, Try.ntmps17
      go_wp2
      go_quiet (fail)
      go_wp2
      go_quiet (fail)
      go_wp2
      go_ret
      exact ⟨ret_i64 (by rw [HM2.out]), ⟨_, rfl⟩⟩
    · have HM2 := Lib.hid m2
      clear m2
      go_enter Try.func17, Try.ntmps17
      go_wp2
      go_quiet (fail)
      go_wp2
      go_quiet (fail)
      go_wp2
      go_ret
      exact ⟨ret_i64 (by rw [HM2.out]; rfl), ⟨_, rfl⟩⟩

end Go.Proofs.Ytnkbkkbpmjemiaa

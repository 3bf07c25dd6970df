/- Small words on memory: bytes that are read, rows of bytes that the call itself owns, an append of bytes to such a row. Conditions: none but those that each lemma names. -/
import Derived.Test.YtnkbkkbpmjemiaaRows
import Derived.WalkKit
import Derived.WalkSpells
import Derived.WalkLawsBesides
import Derived.Laws.AppendOwnNone
namespace Go.Proofs.Ytnkbkkbpmjemiaa
open Go.RowKit

/-- Bytes that are read at A. -/
def BRead (w : World) (A : Option Addr) (l : List UInt8) : Prop :=
  ∀ i : Nat, i < l.length → ∃ ad, A = some ad ∧ w.cell? (ad.add i) = some (.int .u8 ((l.getD i 0).toNat : Int))
theorem getD_eq {α : Type} (l : List α) (i : Nat) (d : α) (h : i < l.length) : l.getD i d = l[i] := by simp [List.getD, h]
theorem take_snoc {α : Type} (l : List α) (i : Nat) (d : α) (h : i < l.length) : l.take (i + 1) = l.take i ++ [l.getD i d] := by
  rw [List.take_succ_eq_append_getElem h, getD_eq l i d h]
theorem add_at (b i j : Nat) : (⟨b, i, none⟩ : Addr).add j = ⟨b, i + j, none⟩ := by unfold Addr.add; split <;> simp_all
/-- A byte as a value. -/
def byteV (c : UInt8) : Value := .int .u8 (c.toNat : Int)
/-- Bytes that lie in a block. -/
theorem bread_block {w : World} {b : Nat} {cur : Array Value} {t : TypeId} {m : Nat × Nat} (h : w.heap[b]? = some (.cells cur t m)) (off : Nat) (l : List UInt8)
    (hc : (cur.toList.drop off).take l.length = l.map byteV) : BRead w (some ⟨b, off, none⟩) l := by
  intro i hi
  refine ⟨_, rfl, ?_⟩
  rw [add_at, cell_of_row w b (off + i) cur t m h]
  have e := congrArg (fun x : List Value => x[i]?) hc
  simp only [List.getElem?_take, List.getElem?_drop, List.getElem?_map, if_pos hi] at e
  rw [← Array.getElem?_toList, e, getD_eq l i 0 hi, List.getElem?_eq_getElem hi]
  rfl
theorem alloc_at (w : World) (o : Obj) : (w.alloc o).heap[w.heap.size]? = some o := heap_alloc_new w o
theorem heap_lt {w : World} {g : Nat} {o : Obj} (h : w.heap[g]? = some o) : g < w.heap.size := (Array.getElem?_eq_some_iff.1 h).1
theorem alloc_under {w : World} {g : Nat} {o : Obj} (h : w.heap[g]? = some o) (o' : Obj) : (w.alloc o').heap[g]? = some o := (Below.heap_alloc w o' g (heap_lt h)).trans h
theorem alloc_size (w : World) (o : Obj) : (w.alloc o).heap.size = w.heap.size + 1 := World.size_alloc w o

theorem BRead.below {w w1 : World} {A : Option Addr} {l : List UInt8} (h : BRead w A l) (hb : Below w.heap.size w w1) : BRead w1 A l := by
  intro i hi
  obtain ⟨ad, rfl, hc⟩ := h i hi
  exact ⟨ad, rfl, (hb.cell (World.block_lt_of_cell? w _ hc)).trans hc⟩
theorem BRead.nil (w : World) (A : Option Addr) : BRead w A [] := fun _ hi => absurd hi (Nat.not_lt_zero _)
theorem BRead.take {w : World} {A : Option Addr} {l : List UInt8} (h : BRead w A l) (m : Nat) : BRead w A (l.take m) := by
  intro i hi
  have hi' : i < l.length := by simp at hi; omega
  have e : (l.take m).getD i 0 = l.getD i 0 := by rw [getD_eq _ _ _ hi, getD_eq _ _ _ hi', List.getElem_take]
  rw [e]
  exact h i hi'

/-- A row of the call's own stays where only older memory, or what is new, has turned. -/
theorem own_below {w w1 : World} {base n size : Nat} {e : TypeId} {v : Value} {xs : List Value} (h : w.ownsRow base e size v n xs) (hb : Below w.heap.size w w1) : w1.ownsRow base e size v n xs := by
  obtain ⟨h1, h2⟩ := h
  refine ⟨h1, ?_⟩
  rcases h2 with h2 | ⟨g, cap, cur, rfl, hg, hh, r⟩
  · exact .inl h2
  · exact .inr ⟨g, cap, cur, rfl, hg, (hb.block g (heap_lt hh)).trans hh, r⟩
/-- Rows of two types are two rows. -/
theorem own_apart {w : World} {b b' : Nat} {e e' : TypeId} {s s' n n' : Nat} {v v' : Value} {xs xs' : List Value} (h : w.ownsRow b e s v n xs) (h' : w.ownsRow b' e' s' v' n' xs') (hne : e ≠ e') : v.ownBlock = none ∨ v.ownBlock ≠ v'.ownBlock := by
  rcases h.2 with ⟨rfl, _⟩ | ⟨g, cap, cur, rfl, _, hh, _⟩
  · exact .inl rfl
  · right
    rcases h'.2 with ⟨rfl, _⟩ | ⟨g', cap', cur', rfl, _, hh', _⟩
    · simp [Value.ownBlock]
    · simp only [Value.ownBlock, ne_eq, Option.some.injEq]
      rintro rfl
      rw [hh] at hh'
      simp at hh'
      exact hne hh'.2
/-- A row of the call's own is a slice; its elements are read. -/
theorem own_form {w : World} {base n : Nat} {e : TypeId} {v : Value} {xs : List Value} (h : w.ownsRow base e 1 v n xs) :
    ∃ A c, v = .slice A n c ∧ n ≤ c ∧ c ≤ maxLen ∧ ∀ j u, xs[j]? = some u → ∃ ad, A = some ad ∧ w.cell? (ad.add j) = some u := by
  rcases h.2 with ⟨rfl, rfl⟩ | ⟨g, cap, cur, rfl, _, hh, hn, hc, hs, ht⟩
  · have : xs = [] := List.length_eq_zero_iff.1 (by rw [h.1])
    subst this
    exact ⟨none, 0, rfl, Nat.le_refl _, Nat.zero_le _, fun j u hu => by simp at hu⟩
  · refine ⟨_, _, rfl, hn, hc, fun j u hu => ⟨_, rfl, ?_⟩⟩
    exact h.cells (g := g) rfl j u hu
theorem own_bread {w : World} {base n : Nat} {e : TypeId} {v : Value} {l : List UInt8} (h : w.ownsRow base e 1 v n (l.map byteV)) : ∃ A c, v = .slice A n c ∧ n ≤ c ∧ c ≤ maxLen ∧ l.length = n ∧ BRead w A l := by
  have hl : l.length = n := by have := h.1; simp at this; exact this
  obtain ⟨A, c, rfl, hn, hc, hr⟩ := own_form h
  refine ⟨A, c, rfl, hn, hc, hl, fun i hi => ?_⟩
  rw [getD_eq l i 0 hi]
  exact hr i _ (by rw [List.getElem?_map, List.getElem?_eq_getElem hi]; rfl)

theorem Try.inf5 : (Try.prog.info? 5).map (fun i => (i.zero, i.size, i.bytes)) = some (some (.int .u8 0), 1, 1) := by kernel_rfl
theorem Try.inf25 : (Try.prog.info? 25).map (fun i => (i.zero, i.size, i.bytes)) = some (some (.slice none 0 0), 1, 24) := by kernel_rfl

theorem oneCell_bytes (l : List UInt8) : ∀ u ∈ l.map byteV, u.oneCell' = true := by
  intro u hu
  obtain ⟨c, _, rfl⟩ := List.mem_map.1 hu
  rfl
/-- Bytes are appended to a row of bytes of the call's own. -/
theorem append_bytes {w : World} {ops : Array Oper} {rest : List Oper} {o : Oper} {a : Act} {Q : Exit → Act → World → Prop} (hgd : o.guard = none) (s x : Operand)
    (ho : o.op = .call { callee := .builtin .append, args := #[s, x], argTypes := #[25, 25] })
    (base : Nat) (v : Value) (n : Nat) (l : List UInt8) (hs : a.eval s = v) (hown : w.ownsRow base 5 1 v n (l.map byteV))
    (A : Option Addr) (m c : Nat) (l' : List UInt8) (hx : a.eval x = .slice A m c) (hn : A = none → c = 0) (hl : l'.length = m) (hr : BRead w A l')
    (h63 : n + m ≤ maxLen) (hbytes : (n + m) * 1 ≤ 140737488355328) (hbase : base ≤ w.heap.size)
    (h : ∀ v' w', w'.ownsRow base 5 1 v' (n + m) ((l ++ l').map byteV) → w.grownBy w' v.ownBlock → wpList Try.prog ops Q rest (a.put o.dst v') w') : wpList Try.prog ops Q (o :: rest) a w := by
  obtain ⟨i0, hi, hz0, hz1, hz2⟩ := info_parts Try.inf5
  cases A with
  | none =>
    have hm : m = 0 := by
      cases l' with
      | nil => exact hl.symm
      | cons y l' => obtain ⟨_, hh, _⟩ := hr 0 (by simp); cases hh
    subst hm
    have hl' : l' = [] := List.length_eq_zero_iff.1 hl
    subst hl'
    have hc := hn rfl
    subst hc
    refine wpList_append_own_none hgd s x 25 ho base 5 i0 1 Try.underlying25 hi v n _ hs hown hx ?_
    exact h v w (by rw [List.append_nil]; exact hown) (World.grownBy.refl _ _)
  | some ad =>
    refine wpList_append_own w hgd s x 25 ho base 5 i0 (.int .u8 0) 1 1 Try.underlying25 hi hz0 hz1 hz2 rfl (by decide) v n _ hs hown ad m c (l'.map byteV) hx (by rw [List.length_map, hl, Nat.mul_one]) ?_ (oneCell_bytes l') h63 hbytes hbase ?_
    · intro j u hu
      rw [List.getElem?_map] at hu
      have hj : j < l'.length := by
        rcases Nat.lt_or_ge j l'.length with h1 | h1
        · exact h1
        · rw [List.getElem?_eq_none h1] at hu; cases hu
      obtain ⟨ad', e, hc⟩ := hr j hj
      cases e
      rw [hc]
      rw [List.getElem?_eq_getElem hj] at hu
      rw [getD_eq l' j 0 hj]
      exact hu
    · intro v' w' h1 h2 _
      exact h v' w' (by rw [List.map_append]; exact h1) h2

/-- One value of one cell is appended to a row of the call's own. -/
theorem append_one {w : World} {ops : Array Oper} {rest : List Oper} {o : Oper} {a : Act} {Q : Exit → Act → World → Prop} (hgd : o.guard = none) (s x : Operand) (t e : TypeId) (z : Value) (bytes : Nat)
    (ho : o.op = .call { callee := .builtin .append, args := #[s, x], argTypes := #[t, t] })
    (ht : Try.prog.underlying t = some (.slice e)) (hinf : (Try.prog.info? e).map (fun i => (i.zero, i.size, i.bytes)) = some (some z, 1, bytes)) (hz : z.cells.size = 1)
    (base : Nat) (v : Value) (n : Nat) (xs : List Value) (hs : a.eval s = v) (hown : w.ownsRow base e 1 v n xs)
    (ad : Addr) (u : Value) (hx : a.eval x = .slice (some ad) 1 1) (hu : w.cell? (ad.add 0) = some u) (h1 : u.oneCell' = true)
    (h63 : n + 1 ≤ maxLen) (hbytes : (n + 1) * bytes ≤ 140737488355328) (hbase : base ≤ w.heap.size)
    (h : ∀ ad' c' w', w'.ownsRow base e 1 (.slice (some ad') (n + 1) c') (n + 1) (xs ++ [u]) → n + 1 ≤ c' → c' ≤ maxLen → w'.cell? (ad'.add n) = some u → w.grownBy w' v.ownBlock → wpList Try.prog ops Q rest (a.put o.dst (.slice (some ad') (n + 1) c')) w') :
    wpList Try.prog ops Q (o :: rest) a w := by
  obtain ⟨i0, hi, hz0, hz1, hz2⟩ := info_parts hinf
  refine wpList_append_own w hgd s x t ho base e i0 z 1 bytes ht hi hz0 hz1 hz2 hz (by decide) v n xs hs hown ad 1 1 [u] hx rfl ?_ ?_ h63 hbytes hbase ?_
  · intro j y hy
    cases j with
    | zero => simp at hy; rw [hu, hy]
    | succ j => simp at hy
  · intro y hy
    rw [List.mem_singleton.1 hy]
    exact h1
  · intro v' w' h2 h3 _
    obtain ⟨A, c, rfl, hn, hc, hr⟩ := own_form h2
    have hl : xs.length = n := by have := hown.1; omega
    obtain ⟨ad', rfl, hcell⟩ := hr n u (by rw [List.getElem?_append_right (by omega), hl]; simp)
    exact h ad' c w' h2 hn hc hcell h3
theorem own_lo {w : World} {base n size : Nat} {e : TypeId} {v : Value} {xs : List Value} (h : w.ownsRow base e size v n xs) : ∀ k, v.ownBlock = some k → base ≤ k := fun k hk => (h.lt k hk).1

end Go.Proofs.Ytnkbkkbpmjemiaa

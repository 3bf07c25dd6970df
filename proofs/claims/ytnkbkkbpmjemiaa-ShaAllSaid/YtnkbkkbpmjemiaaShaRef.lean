/- What the reference's Sha does: the hash of bytes. Conditions: the bytes are read; they are few. -/
import Derived.Test.YtnkbkkbpmjemiaaShaRoots
import Derived.Test.YtnkbkkbpmjemiaaShaBlock
import Derived.Test.YtnkbkkbpmjemiaaShaSum
namespace Go.Proofs.Ytnkbkkbpmjemiaa
open Go.RowKit Sha

/-- The first k constants and the first m words stand. -/
def Rst (w : World) (g gp k m : Nat) (x : World) : Prop :=
  x.heap[g]? = some (.cells (blk (K.take k ++ List.replicate (64 - k) 0)) 56) ∧ x.heap[g + 1]? = some (.cells (blk (Sha.start.list.take m ++ List.replicate (8 - m) 0)) 51) ∧
  x.heap[w.heap.size]? = some (.cells (bblk (List.replicate 32 0)) 40) ∧ Below w.heap.size w x ∧ ∀ i, i < 64 → x.cell? ⟨gp, i, none⟩ = some (.int .u64 (Pr.getD i 0))
theorem cell_grown {x y : World} {g g' i : Nat} {v : Value} (h : x.cell? ⟨g, i, none⟩ = some v) (hg : x.grownBy y (some g')) (hne : g ≠ g') : y.cell? ⟨g, i, none⟩ = some v := by
  rw [← h]
  have hlt : g < x.heap.size := World.block_lt_of_cell? x _ h
  unfold World.cell?
  rw [hg.block g hlt (by simpa using hne)]
theorem Rst.drew {w x : World} {g gp k m : Nat} (h : Rst w g gp k m x) (n : Nat) : Rst w g gp k m (x.drewN n) :=
  ⟨h.1, h.2.1, h.2.2.1, ⟨h.2.2.2.1.os, h.2.2.2.1.tape, h.2.2.2.1.output, h.2.2.2.1.size, h.2.2.2.1.block⟩, h.2.2.2.2⟩
theorem Rst.setK {w x y : World} {g gp k m : Nat} (h : Rst w g gp k m x) (hk : k < 64) (hy : y.heap[g]? = some (.cells (blk ((K.take k ++ List.replicate (64 - k) 0).set k (K.getD k 0))) 56)) (hg : x.grownBy y (some g)) (hw : w.heap.size < g) (hp : gp < g) : Rst w g gp (k + 1) m y := by
  have hl : (K.take k).length = k := by simp [K]; omega
  have hf := fill_set (K.take k) (64 - k) (K.getD k 0) (by omega)
  rw [hl, ← take_snoc K k 0 (by simp [K]; omega)] at hf
  rw [hf] at hy
  exact ⟨hy, heap_kept h.2.1 hg (by omega), heap_kept h.2.2.1 hg (by omega), below_grown h.2.2.2.1 hg h.2.2.2.1.size (by omega), fun i hi => cell_grown (h.2.2.2.2 i hi) hg (by omega)⟩
theorem Rst.setH {w x y : World} {g gp k m : Nat} (h : Rst w g gp k m x) (hk : m < 8) (hy : y.heap[g + 1]? = some (.cells (blk ((Sha.start.list.take m ++ List.replicate (8 - m) 0).set m (Sha.start.list.getD m 0))) 51)) (hg : x.grownBy y (some (g + 1))) (hw : w.heap.size < g) (hp : gp < g) : Rst w g gp k (m + 1) y := by
  have hl : (Sha.start.list.take m).length = m := by simp [Sha.start, St.list]; omega
  have hf := fill_set (Sha.start.list.take m) (8 - m) (Sha.start.list.getD m 0) (by omega)
  rw [hl, ← take_snoc Sha.start.list m 0 (by simp [Sha.start, St.list]; omega)] at hf
  rw [hf] at hy
  exact ⟨heap_kept h.1 hg (by omega), hy, heap_kept h.2.2.1 hg (by omega), below_grown h.2.2.2.1 hg h.2.2.2.1.size (by omega), fun i hi => cell_grown (h.2.2.2.2 i hi) hg (by omega)⟩
/-- A whole array is loaded, where nothing turns. -/
theorem wpStill_load_row {ops : Array Oper} {w : World} {Q : Act → Prop} {a : Act} {o : Oper} {rest : List Oper} (hgd : o.guard = none) (ty : TypeId) (x : Operand) (ho : o.op = .load ty x)
    (g : Nat) (hx : a.eval x = .pointer (some ⟨g, 0, none⟩)) (cs : Array Value) (hg : (loadVar ty ⟨g, 0, none⟩).run Try.prog w = .ok (.agg cs) w)
    (h : wpStill Try.prog ops w Q rest (a.put o.dst (.agg cs))) : wpStill Try.prog ops w Q (o :: rest) a := by
  refine wpStill_step fun K hK => ?_
  have hwd : Region.wanted o (yielded ops a.tmps) = true := by simp [Region.wanted, hgd]
  rw [if_pos hwd]
  unfold Oper.still execOp
  simp only [ho, hx, Instr.loadAt, Instr.sureAddr, Sem.run_bind, Sem.run_pure, Result.andThen_ok, hg]
  rw [Oper.stillUpon_value]
  exact hK _ h
/-- k blocks are mixed in. -/
def Bst (w : World) (g gr : Nat) (l : List UInt8) (k : Nat) (x : World) : Prop :=
  x.heap[g]? = some (.cells (blk K) 56) ∧ x.heap[g + 1]? = some (.cells (blk (mixes Sha.start (pad l) k).list) 51) ∧ x.heap[w.heap.size]? = some (.cells (bblk (List.replicate 32 0)) 40) ∧ Below w.heap.size w x ∧ BRead x (some ⟨gr, 0, none⟩) (pad l)
theorem hb7_drew {x y : World} (h : Below x.drew.heap.size x.drew y) : Below x.heap.size x y := ⟨h.os, h.tape, h.output, h.size, h.block⟩
theorem Bst.step {w x y z : World} {g gr k : Nat} {l : List UInt8} (h : Bst w g gr l k x) (hb : Below x.heap.size x y) (hz : z.heap[g + 1]? = some (.cells (blk (mixes Sha.start (pad l) (k + 1)).list) 51)) (hg : y.grownBy z (some (g + 1))) (hw : w.heap.size < g) (hr : g + 1 < gr) : Bst w g gr l (k + 1) z :=
  ⟨heap_kept ((hb.block _ (heap_lt h.1)).trans h.1) hg (by omega), hz, heap_kept ((hb.block _ (heap_lt h.2.2.1)).trans h.2.2.1) hg (by omega),
    below_grown (h.2.2.2.1.trans (hb.mono h.2.2.2.1.size)) hg (h.2.2.2.1.trans (hb.mono h.2.2.2.1.size)).size (by omega), (h.2.2.2.2.below hb).grown hg (by omega)⟩
/-- t bytes of the answer stand. -/
def Ost (w : World) (g g7 : Nat) (s : St) (t : Nat) (x : World) : Prop :=
  x.heap[g7]? = some (.cells (bblk (outN s.list t)) 40) ∧ x.heap[g + 1]? = some (.cells (blk s.list) 51) ∧ x.heap[w.heap.size]? = some (.cells (bblk (List.replicate 32 0)) 40) ∧ Below w.heap.size w x
theorem Ost.step {w x z : World} {g g7 t : Nat} {s : St} (h : Ost w g g7 s t x) (hz : z.heap[g7]? = some (.cells (bblk (outN s.list (t + 1))) 40)) (hg : x.grownBy z (some g7)) (hw : w.heap.size < g) (hr : g + 1 < g7) : Ost w g g7 s (t + 1) z :=
  ⟨hz, heap_kept h.2.1 hg (by omega), heap_kept h.2.2.1 hg (by omega), below_grown h.2.2.2 hg h.2.2.2.size (by omega)⟩
theorem rst_start {w w1 : World} {gp B c : Nat} (hx : w1.heap[w.heap.size]? = some (.cells (bblk (List.replicate 32 0)) 40)) (hb : Below w.heap.size w w1) (ho : w1.ownsRow B 53 1 (.slice (some ⟨gp, 0, none⟩) 64 c) 64 (Pr.map (Value.int .u64))) :
    Rst w w1.heap.size gp 0 0 ((w1.alloc (.cells (blk (List.replicate 64 0)) 56)).alloc (.cells (blk (List.replicate 8 0)) 51)) := by
  refine ⟨alloc_under (alloc_at _ _) _, ?_, alloc_under (alloc_under hx _) _, (hb.alloc hb.size _).alloc (by have := hb.size; simp; omega) _, fun i hi => ?_⟩
  · have h := alloc_at (w1.alloc (.cells (blk (List.replicate 64 0)) 56)) (.cells (blk (List.replicate 8 0)) 51)
    rw [alloc_size] at h
    exact h
  · obtain ⟨A, c', e, _, _, hr⟩ := own_form ho
    cases e
    obtain ⟨ad, e, hc⟩ := hr i (.int .u64 (Pr.getD i 0)) (by
      have hl : i < Pr.length := hi
      rw [List.getElem?_map, List.getElem?_eq_getElem hl, getD_eq _ _ _ hl]
      rfl)
    cases e
    rw [add_at, Nat.zero_add] at hc
    have hlt := World.block_lt_of_cell? w1 _ hc
    rw [← hc]
    unfold World.cell?
    have h1 : ((w1.alloc (.cells (blk (List.replicate 64 0)) 56)).alloc (.cells (blk (List.replicate 8 0)) 51)).heap[gp]? = w1.heap[gp]? := (Below.heap_alloc _ _ gp (by simp; exact Nat.lt_succ_of_lt hlt)).trans (Below.heap_alloc _ _ gp hlt)
    rw [h1]

set_option maxRecDepth 100000 in
set_option maxHeartbeats 1000000 in
theorem ref_any (A : Option Addr) (n c : Nat) (l : List UInt8) (w : World) (hn : l.length = n) (hs : n ≤ 1000) (hA : A = none → c = 0) (hr : BRead w A l) :
    Calls Try.prog 29 #[.slice A n c] w fun e w' => e = .returned (.agg (bblk (Sha.sum l))) ∧ Below w.heap.size w w' := by
  have HN := Lib.hid hn
  have HA := Lib.hid hA
  have HR := Lib.hid hr
  clear hn hr hA
  go_enter Try.func29, Try.ntmps29
  go_wp2_with (go_at_call 32; refine (primes_any _).mono ?_; rintro e w1 ⟨v, rfl, ho1, hb1⟩; have HX1 : Hid (w1.heap[w.heap.size]? = some (.cells (bblk (List.replicate 32 0)) 40)) := Lib.hid ((hb1.block _ (by simp)).trans (alloc_at _ _)); have HB1 : Hid (Below w.heap.size w w1) := Lib.hid (((Below.refl _ _).alloc (Nat.le_refl _) _).trans (hb1.mono (by simp))); have HL1 := Lib.hid (heap_lt HX1.out); obtain ⟨gp, cap, rfl, hgb, hgl⟩ := own_at ho1 (by decide); have HO1 := Lib.hid ho1; have HGB := Lib.hid hgb; have HGL := Lib.hid hgl; clear hb1 hgb hgl ho1)
  have HR0 := Lib.hid (rst_start HX1.out HB1.out HO1.out)
  have HGW : Hid (w.heap.size < w1.heap.size) := HL1
  clear HX1 HB1 HO1 HGB
  generalize w1.heap.size = g at *
  go_loopw [6] (fun i wx => ∃ k : Nat, k ≤ 64 ∧ i = .int .i64 k ∧ Hid (Rst w g gp k (min k 8) wx)) (fun i _ => 64 - (intOf i).toNat)
  case atStart => exact ⟨0, by omega, rfl, HR0⟩
  case round =>
    clear HR0
    obtain ⟨k, hk, rfl, HS⟩ := hrel
    by_cases hlt : k < 64
    · have cp := HS.out.2.2.2.2 k hlt
      have HC := Lib.hid (root_cube k hlt)
      have HQ : Hid (k < 8 → ∀ w, Calls Try.prog 33 #[.int .u64 (Pr.getD k 0), .bool false] w fun e w' => e = .returned (wordV (Sha.start.list.getD k 0)) ∧ ∃ n, w' = w.drewN n) := Lib.hid (root_sq k)
      have HK : Hid (∀ y, y.heap[g]? = some (.cells (blk ((K.take k ++ List.replicate (64 - k) 0).set k (K.getD k 0))) 56) → ∀ x, Rst w g gp k (min k 8) x → x.grownBy y (some g) → Rst w g gp (k + 1) (min k 8) y) := Lib.hid (fun y hy x hx hg => hx.setK hlt hy hg HGW.out HGL.out)
      have HH : Hid (k < 8 → ∀ y, y.heap[g + 1]? = some (.cells (blk ((Sha.start.list.take (min k 8) ++ List.replicate (8 - min k 8) 0).set k (Sha.start.list.getD k 0))) 51) → ∀ x, Rst w g gp (k + 1) (min k 8) x → x.grownBy y (some (g + 1)) → Rst w g gp (k + 1) (min (k + 1) 8) y) := Lib.hid (fun h y hy x hx hg => by
        rw [show min k 8 = k by omega] at hy hx
        rw [show min (k + 1) 8 = k + 1 by omega]
        exact hx.setH h hy hg HGW.out HGL.out)
      have HCP : Hid (∀ x, Rst w g gp (k + 1) (min k 8) x → x.cell? ⟨gp, k, none⟩ = some (.int .u64 (Pr.getD k 0))) := Lib.hid (fun x hx => hx.2.2.2.2 k hlt)
      generalize Pr.getD k 0 = q at cp HC HQ HCP
      generalize K.getD k 0 = kk at HC HK
      generalize Sha.start.list.getD k 0 = hh at HQ HH
      have j0 : (0 : Int) ≤ (k : Int) := by omega
      have j1 : (k : Int) < 64 := by omega
      have HL1 : Hid (k < (K.take k ++ List.replicate (64 - k) 0).length) := Lib.hid (by simp [K]; omega)
      have HL2 : Hid (k < 8 → k < (Sha.start.list.take (min k 8) ++ List.replicate (8 - min k 8) 0).length) := Lib.hid (fun h => by simp [Sha.start, St.list]; omega)
      by_cases h8 : k < 8
      · have j2 : (k : Int) < 8 := by omega
        have HQ' := Lib.hid (HQ.out h8)
        have HH' := Lib.hid (HH.out h8)
        have HL2' := Lib.hid (HL2.out h8)
        clear HQ HH HL2
        go_wp2_with (first
          | (go_at_call 33; (with_reducible refine (HC.out _).mono ?_); rintro e w2 ⟨rfl, n1, rfl⟩)
          | (refine store_word rfl (.tmp 25) (.tmp 24) rfl g k 56 _ kk rfl ?hy (HS.out.drew n1).1 HL1.out ?_; (case hy => exact rfl); intro w3 h3 hg3; have HS3 := Lib.hid (HK.out w3 h3 _ (HS.out.drew n1) hg3); have cp3 := HCP.out w3 HS3.out; clear h3 hg3)
          | (go_at_call 33; (with_reducible refine (HQ'.out _).mono ?_); rintro e w4 ⟨rfl, n2, rfl⟩)
          | (refine store_word rfl (.tmp 34) (.tmp 33) rfl (g + 1) k 51 _ hh rfl ?hy (HS3.out.drew n2).2.1 HL2'.out ?_; (case hy => exact rfl); intro w5 h5 hg5; have HS5 := Lib.hid (HH'.out w5 h5 _ (HS3.out.drew n2) hg5); clear h5 hg5))
        go_roundw
        case rel => exact ⟨k + 1, by omega, by go_num, HS5⟩
        case measure => simp [intOf]; omega
      · have j2 : ¬ ((k : Int) < 8) := by omega
        go_wp2_with (first
          | (go_at_call 33; (with_reducible refine (HC.out _).mono ?_); rintro e w2 ⟨rfl, n1, rfl⟩)
          | (refine store_word rfl (.tmp 25) (.tmp 24) rfl g k 56 _ kk rfl ?hy (HS.out.drew n1).1 HL1.out ?_; (case hy => exact rfl); intro w3 h3 hg3; have HS3 := Lib.hid (HK.out w3 h3 _ (HS.out.drew n1) hg3); clear h3 hg3))
        go_roundw
        case rel => exact ⟨k + 1, by omega, by go_num, Lib.hid (by have h := HS3.out; rw [show min k 8 = min (k + 1) 8 by omega] at h; exact h)⟩
        case measure => simp [intOf]; omega
    · skip
      obtain rfl : k = 64 := by omega
      have HSK : Hid (wr.heap[g]? = some (.cells (blk K) 56)) := Lib.hid (by have h := HS.out.1; rw [show K.take 64 ++ List.replicate (64 - 64) 0 = K from rfl] at h; exact h)
      have HSH : Hid (wr.heap[g + 1]? = some (.cells (blk Sha.start.list) 51)) := Lib.hid (by have h := HS.out.2.1; exact h)
      have HX2 := Lib.hid HS.out.2.2.1
      have HB2 := Lib.hid HS.out.2.2.2.1
      have HR2 := Lib.hid (HR.out.below HB2.out)
      clear HS hlt hk
      generalize wr = w2 at *
      have C1 : Hid (0 + n ≤ maxLen) := Lib.hid (by unfold maxLen; omega)
      have C2 : Hid ((0 + n) * 1 ≤ 140737488355328) := Lib.hid (by omega)
      have C3 : Hid (n + 1 ≤ maxLen) := Lib.hid (by unfold maxLen; omega)
      have C4 : Hid ((n + 1) * 1 ≤ 140737488355328) := Lib.hid (by omega)
      go_wp2_with (first
        | (at_builtin; refine append_bytes rfl (.const (.slice none 0 0)) (.tmp 35) rfl w2.heap.size _ 0 [] rfl (World.ownsRow_nil _ _ _ _) A n c l rfl HA.out HN.out HR2.out C1.out C2.out (Nat.le_refl _) ?_; intro v3 w3 hown3 hg3; simp only [Nat.zero_add, List.nil_append] at hown3; have HO3 := Lib.hid hown3; have HG3 := Lib.hid hg3; have HA3 := Lib.hid (Nat.le_succ_of_le hg3.size); clear hown3 hg3)
        | (at_builtin; go_must (refine append_one rfl (.tmp 36) (.tmp 37) 25 5 (.int .u8 0) 1 rfl Try.underlying25 Try.inf5 rfl w2.heap.size _ n (l.map byteV) rfl (HO3.out.alloc _) ⟨w3.heap.size, 0, none⟩ (.int .u8 128) rfl (by rw [add_at, cell_of_row _ _ _ _ _ _ (alloc_at _ _)]; rfl) rfl C3.out C4.out (by rw [alloc_size]; exact HA3.out) ?_; intro ad4 c4 w4 hown4 hle4 hm4 hc4 hg4; obtain ⟨ho, hb⟩ := mark_step HG3.out HO3.out hg4 hown4; have HO4 := Lib.hid ho; have HB4 := Lib.hid hb; clear hown4 hg4 ho hb)))
      clear HO3 HG3 HA3 HR2 C1 C2 C3 C4 hle4 hm4 hc4 HA
      have HZ := Lib.hid (zeros_le n)
      go_loopw [7] (fun v wr => ∃ k, k ≤ zeros n ∧ ∃ a c', v = .slice (some a) (n + 1 + k) c' ∧ Hid (wr.ownsRow w2.heap.size 5 1 v (n + 1 + k) ((marked l k).map byteV)) ∧ Hid (Below w2.heap.size w2 wr)) (fun v _ => n + 64 - lenOf v)
      case atStart => exact ⟨0, Nat.zero_le _, ad4, c4, rfl, HO4, HB4⟩
      case round =>
        clear HO4 HB4
        obtain ⟨k, hk, a, c', rfl, HO, HB⟩ := hrel
        have hz := HZ.out
        by_cases hlt : k < zeros n
        · have hne : (((n + 1 + k : Nat) : Int) % 64 != 56) = true := by
            rw [bne_iff_ne]
            intro h
            have := (zeros_stop n k hk).1 (by omega)
            omega
          have C3 : Hid (n + 1 + k + 1 ≤ maxLen) := Lib.hid (by unfold maxLen; omega)
          have C4 : Hid ((n + 1 + k + 1) * 1 ≤ 140737488355328) := Lib.hid (by omega)
          have HA3 := Lib.hid (Nat.le_succ_of_le HB.out.size)
          go_wp2_with (at_builtin; go_must (refine append_one rfl (.tmp 43) (.tmp 44) 25 5 (.int .u8 0) 1 rfl Try.underlying25 Try.inf5 rfl w2.heap.size _ (n + 1 + k) ((marked l k).map byteV) rfl (HO.out.alloc _) ⟨wr.heap.size, 0, none⟩ (.int .u8 0) rfl (by rw [add_at, cell_of_row _ _ _ _ _ _ (alloc_at _ _)]; rfl) rfl C3.out C4.out (by rw [alloc_size]; exact HA3.out) ?_; intro ad5 c5 w5 hown5 hle5 hm5 hc5 hg5; obtain ⟨ho, hb⟩ := zero_step (marked_succ l k) HB.out HO.out hg5 hown5; have HO5 := Lib.hid ho; have HB5 := Lib.hid hb; clear hown5 hg5 ho hb))
          go_roundw
          case rel => exact ⟨k + 1, by omega, ad5, c5, rfl, HO5, HB5⟩
          case measure => simp [lenOf]; omega
        · obtain rfl : k = zeros n := by omega
          have hne : (((n : Int) + 1 + (zeros n : Nat)) % 64 != 56) = false := by
            have := (zeros_stop n (zeros n) hk).2 rfl
            rw [bne_eq_false_iff_eq]
            omega
          clear hlt hk
          go_wp2
          have HO1 : Hid (wr.ownsRow w2.heap.size 5 1 (Value.slice (some a) (n + 1 + zeros n) c') (n + 1 + zeros n) ((long l 0).map byteV)) := Lib.hid (by rw [long_zero, HN.out]; exact HO.out)
          clear HO
          have hNN : (n + 1 + zeros n + 8) % 64 = 0 ∧ n + 1 + zeros n ≤ 1064 := ⟨zeros_fit n, by omega⟩
          have hpl : (pad l).length = n + 1 + zeros n + 8 := by rw [← long_pad, long_length, HN.out]
          have HPL := Lib.hid hpl
          have HNN := Lib.hid hNN.2
          clear hNN hpl hz
          generalize n + 1 + zeros n = N at *
          go_loopw [7, 9] (fun v i wr => ∃ j : Nat, j ≤ 8 ∧ i = .int .i64 (7 - (j : Int)) ∧ ∃ a c', v = .slice (some a) (N + j) c' ∧ Hid (wr.ownsRow w2.heap.size 5 1 v (N + j) ((long l j).map byteV)) ∧ Hid (Below w2.heap.size w2 wr)) (fun _ i _ => (1 + intOf i).toNat)
          case atStart => exact ⟨0, Nat.zero_le _, rfl, a, c', rfl, HO1, HB⟩
          case round =>
            clear HO1 HB
            obtain ⟨j, hj, rfl, a, c', rfl, HO, HB⟩ := hrel
            by_cases hlt : j < 8
            · obtain ⟨q, hq⟩ : ∃ q : Nat, 7 - (j : Int) = (q : Int) := Int.eq_ofNat_of_zero_le (by omega)
              rw [hq]
              have HQ : Hid (7 - (j : Int) = (q : Int)) := Lib.hid hq
              have j0 : (0 : Int) ≤ (q : Int) := by omega
              have j1 : (q : Int) ≤ 7 := by omega
              have j2 : (0 : Int) ≤ 8 * (q : Int) := by omega
              have j3 : IntKind.i64.wrap (8 * (q : Int)) = 8 * (q : Int) := IntWalk.i64_in _ (by omega)
              have j4 : (8 * (q : Int)).toNat = 8 * q := by omega
              have j6 : IntKind.u64.wrap (8 * (q : Int)) = 8 * (q : Int) := IntWalk.u64_in _ ⟨by omega, by omega⟩
              have j5 : IntKind.i64.wrap ((q : Int) - 1) = (q : Int) - 1 := IntWalk.i64_in _ (by omega)
              obtain ⟨b, hb⟩ : ∃ b, b = UInt8.ofNat (8 * l.length / 2 ^ (8 * (7 - j))) := ⟨_, rfl⟩
              have HL := Lib.hid (long_succ l j)
              rw [← hb] at HL
              have sv : (n : Int) * 8 / 2 ^ (8 * q) % 256 = (b.toNat : Int) := by
                rw [hb, HN.out, show 7 - j = q by omega, ← lenW, show ((n : Int) * 8) = ((8 * n : Nat) : Int) by omega]
                rfl
              clear hq hb
              have hN := HNN.out
              have C3 : Hid (N + j + 1 ≤ maxLen) := Lib.hid (by unfold maxLen; omega)
              have C4 : Hid ((N + j + 1) * 1 ≤ 140737488355328) := Lib.hid (by omega)
              have HA3 := Lib.hid (Nat.le_succ_of_le HB.out.size)
              clear hN
              go_wp2_with (at_builtin; go_must (refine append_one rfl (.tmp 54) (.tmp 61) 25 5 (.int .u8 0) 1 rfl Try.underlying25 Try.inf5 rfl w2.heap.size _ (N + j) ((long l j).map byteV) rfl (HO.out.alloc _) ⟨wr.heap.size, 0, none⟩ (.int .u8 (b.toNat : Int)) rfl (by rw [add_at, cell_of_row _ _ _ _ _ _ (alloc_at _ _)]; rfl) rfl C3.out C4.out (by rw [alloc_size]; exact HA3.out) ?_; intro ad5 c5 w5 hown5 hle5 hm5 hc5 hg5; obtain ⟨ho, hb⟩ := zero_step HL.out HB.out HO.out hg5 hown5; have HO5 := Lib.hid ho; have HB5 := Lib.hid hb; clear hown5 hg5 ho hb))
              go_roundw
              case rel => exact ⟨j + 1, by omega, by rw [show 7 - ((j + 1 : Nat) : Int) = 7 - (j : Int) - 1 by omega, HQ.out], ad5, c5, rfl, HO5, HB5⟩
              case measure => simp [intOf]; omega
            · obtain rfl : j = 8 := by omega
              clear hlt hj
              go_wp2
              rw [show (7 : Int) - ((8 : Nat) : Int) = (-1 : Int) from rfl]
              obtain ⟨gr, cr, e, hgb, hgl⟩ := own_at HO.out (by omega)
              cases e
              have hrd := own_bread HO.out
              obtain ⟨A', c2, e, hcap, hmax, _, hrd⟩ := hrd
              cases e
              rw [long_pad] at hrd
              have hgk := heap_lt HSK.out
              have hgh := heap_lt HSH.out
              have hN : N + 8 = 64 * blocks l := by have h1 := HPL.out; have h2 := pad_length l; omega
              have HNB := Lib.hid hN
              have HNC := HNN.out
              have HGR : Hid (w2.heap.size ≤ gr ∧ g + 1 < w2.heap.size) := Lib.hid ⟨hgb, hgh⟩
              have HBS : Hid (Bst w g gr l 0 wr) := Lib.hid ⟨(HB.out.block _ hgk).trans HSK.out, (HB.out.block _ hgh).trans HSH.out, (HB.out.block _ (heap_lt HX2.out)).trans HX2.out, HB2.out.trans (HB.out.mono HB2.out.size), hrd⟩
              have HCP : Hid (N + 8 ≤ c') := Lib.hid hcap
              have HMX : Hid (c' ≤ maxLen) := Lib.hid hmax
              clear hrd hgb hgl hcap HO hgk hgh hmax HB
              rw [hN]
              clear hN
              go_loopw [10] (fun i wx => ∃ k : Nat, k ≤ blocks l ∧ i = .int .i64 ((64 * k : Nat) : Int) ∧ Hid (Bst w g gr l k wx)) (fun i _ => (64 * (blocks l : Int) - intOf i).toNat)
              case atStart => exact ⟨0, Nat.zero_le _, rfl, HBS⟩
              case round =>
                clear HBS
                obtain ⟨k, hk, rfl, HS⟩ := hrel
                by_cases hlt : k < blocks l
                · have HPC := Lib.hid (piece_length l k hlt)
                  have HMIX := Lib.hid (mixes_succ Sha.start (pad l) k)
                  have hR := HS.out.2.2.2.2.drop (64 * k) gr 0 rfl
                  have HR7 := Lib.hid (hR.take 64)
                  obtain ⟨o, ho⟩ : ∃ o, o = 64 * k := ⟨_, rfl⟩
                  obtain ⟨M, hM⟩ : ∃ M, M = 64 * blocks l := ⟨_, rfl⟩
                  have hcp := HCP.out
                  have hnb := HNB.out
                  have hmx := HMX.out
                  unfold maxLen at hmx
                  rw [← ho] at HR7 HPC HMIX ⊢
                  rw [← hM]
                  have HO2 := Lib.hid ho
                  have HM2 := Lib.hid hM
                  have o0 : (0 : Int) ≤ (o : Int) := by omega
                  have o1 : IntKind.i64.wrap ((o : Int) + 64) = (o : Int) + 64 := IntWalk.i64_in _ (by omega)
                  have o2 : (o : Int) + 64 ≤ (c' : Int) := by omega
                  have o3 : (o : Int) ≤ (o : Int) + 64 := by omega
                  have o4 : ((o : Int) + 64).toNat = o + 64 := by omega
                  have o5 : (o : Int) < (M : Int) := by omega
                  have o6 : o + 64 - o = 64 := by omega
                  have o7 : ¬ c' = o := by omega
                  have o8 : (o : Int) ≤ (c' : Int) := by omega
                  clear hR ho hM hcp hnb hmx
                  obtain ⟨s, hs⟩ : ∃ s, s = mixes Sha.start (pad l) k := ⟨_, rfl⟩
                  have HSS := Lib.hid hs
                  have HSB : Hid (wr.heap[g + 1]? = some (.cells (blk s.list) 51)) := Lib.hid (by rw [hs]; exact HS.out.2.1)
                  rw [← hs] at HMIX
                  clear hs
                  go_wp2
                  refine wp_region_still_tail 7 (by kernel_rfl) (by kernel_rfl) ?_
                  simp only [List.take_succ_cons, List.take_zero, List.drop_succ_cons, List.drop_zero]
                  refine wpStill_load_row rfl 51 (.tmp 5) rfl (g + 1) rfl (blk s.list) (run_loadVar_row _ (g + 1) 51 51 _ (0, 0) _ HSB.out Try.underlying51 rfl (by kernel_rfl)) ?_
                  repeat still_step
                  refine wpStill_load_row rfl 56 (.tmp 4) rfl g rfl (blk K) (run_loadVar_row _ g 56 56 _ (0, 0) _ HS.out.1 Try.underlying56 rfl (by kernel_rfl)) ?_
                  refine wpStill_nil ?_
                  change wpList _ _ _ _ _ wr.drew
                  have HR8 : Hid (BRead wr.drew (some ⟨gr, o, none⟩) (((pad l).drop o).take 64)) := Lib.hid (by have h := HR7.out; rw [Nat.zero_add] at h; exact h)
                  obtain ⟨pc, hpc⟩ : ∃ pc, pc = ((pad l).drop o).take 64 := ⟨_, rfl⟩
                  rw [← hpc] at HR8 HMIX HPC
                  clear hpc HR7
                  obtain ⟨r, hr⟩ : ∃ r, r = Sha.mix s pc := ⟨_, rfl⟩
                  rw [← hr] at HMIX
                  have HRR := Lib.hid hr
                  clear hr
                  go_wp2_with (first
                    | (go_at_call 34; go_must ((try rw [if_neg o7]); refine (block_any s ⟨gr, o, none⟩ _ pc _ HPC.out HR8.out).mono ?_); rw [← HRR.out]; rintro e w7 ⟨rfl, hb7⟩; have HB7 := Lib.hid hb7; have HE7 := Lib.hid ((hb7.block _ (heap_lt HSB.out)).trans HSB.out); clear hb7)
                    | (refine store_block rfl 51 (.tmp 5) (.tmp 76) rfl (g + 1) 51 (blk s.list) (blk r.list) rfl rfl HE7.out rfl (by kernel_rfl) (blk_one _) ?_; intro w8 h8 hg8 _; have HS8 := Lib.hid h8; have HG8 := Lib.hid hg8; clear h8 hg8))
                  go_roundw
                  case rel =>
                    have h1 := HGR.out
                    have h2 := HO2.out
                    exact ⟨k + 1, by omega, by show Value.int .i64 ((o : Int) + 64) = _; congr 1; omega, Lib.hid (HS.out.step (y := w7) (hb7_drew HB7.out) (by rw [HMIX.out]; exact HS8.out) HG8.out HGW.out (by omega))⟩
                  case measure => have h2 := HO2.out; have h3 := HM2.out; simp [intOf]; omega
                · obtain rfl : k = blocks l := by omega
                  clear hlt hk
                  obtain ⟨M, hM⟩ : ∃ M, M = 64 * blocks l := ⟨_, rfl⟩
                  rw [← hM]
                  clear hM
                  obtain ⟨s, hs⟩ : ∃ s, s = mixes Sha.start (pad l) (blocks l) := ⟨_, rfl⟩
                  have HSS := Lib.hid hs
                  have hgs := heap_lt HS.out.2.1
                  have HGS := Lib.hid hgs
                  have HO0 : Hid (Ost w g wr.heap.size s 0 (wr.alloc (.cells (bblk (List.replicate 32 0)) 40))) := Lib.hid ⟨alloc_at _ _, alloc_under (by rw [hs]; exact HS.out.2.1) _, alloc_under HS.out.2.2.1 _, HS.out.2.2.2.1.alloc HS.out.2.2.2.1.size _⟩
                  clear hs hgs HS
                  go_wp2
                  generalize hg7 : wr.heap.size = g7 at *
                  go_loopw [12] (fun i wx => ∃ k : Nat, k ≤ 8 ∧ i = .int .i64 k ∧ Hid (Ost w g g7 s (4 * k) wx)) (fun i _ => 8 - (intOf i).toNat)
                  case atStart => exact ⟨0, by omega, rfl, HO0⟩
                  case round =>
                    clear HO0
                    obtain ⟨k, hk, rfl, HS⟩ := hrel
                    by_cases hlt : k < 8
                    · have k0 : (0 : Int) ≤ (k : Int) := by omega
                      have k1 : (k : Int) < 8 := by omega
                      go_wp2
                      go_loopw [13] (fun i wx => ∃ j : Nat, j ≤ 4 ∧ i = .int .i64 j ∧ Hid (Ost w g g7 s (4 * k + j) wx)) (fun i _ => 4 - (intOf i).toNat)
                      case atStart => exact ⟨0, by omega, rfl, HS⟩
                      case round =>
                        clear HS
                        obtain ⟨j, hj, rfl, HS⟩ := hrel
                        by_cases hltj : j < 4
                        · have cx := blk_cell HS.out.2.1 k (show k < 8 from hlt)
                          have HO := Lib.hid (outN_set s.list k j rfl hlt hltj)
                          have HLen := Lib.hid (outN_length s.list (4 * k + j) rfl (by omega))
                          obtain ⟨q, hq⟩ : ∃ q : Nat, (24 : Int) - 8 * (j : Int) = (q : Int) := Int.eq_ofNat_of_zero_le (by omega)
                          have v0 := byteQ (s.list.getD k 0) j q hltj hq
                          generalize ((s.list.getD k 0) >>> (UInt32.ofNat (24 - 8 * j))).toUInt8 = b at v0 HO
                          generalize s.list.getD k 0 = x at cx v0
                          unfold wordV at cx
                          have e1 : IntKind.i64.wrap (8 * (j : Int)) = 8 * (j : Int) := IntWalk.i64_in _ (by omega)
                          have e3 : IntKind.i64.wrap (q : Int) = (q : Int) := IntWalk.i64_in _ (by omega)
                          have e4 : IntKind.u64.wrap (q : Int) = (q : Int) := IntWalk.u64_in _ ⟨by omega, by omega⟩
                          have e5 : (0 : Int) ≤ (q : Int) := by omega
                          have e6 : IntKind.i64.wrap (4 * (k : Int)) = 4 * (k : Int) := IntWalk.i64_in _ (by omega)
                          have e7 : IntKind.i64.wrap (4 * (k : Int) + (j : Int)) = 4 * (k : Int) + (j : Int) := IntWalk.i64_in _ (by omega)
                          have e8 : (0 : Int) ≤ 4 * (k : Int) + (j : Int) := by omega
                          have e9 : 4 * (k : Int) + (j : Int) < 32 := by omega
                          have e10 : (4 * (k : Int) + (j : Int)).toNat = 4 * k + j := by omega
                          have e11 : (0 : Int) ≤ (j : Int) := by omega
                          have e12 : (j : Int) < 4 := by omega
                          go_wp2_with (refine store_byte rfl (.tmp 98) (.tmp 97) rfl g7 (4 * k + j) 40 _ b rfl ?hy HS.out.1 (by have := HLen.out; omega) ?_; (case hy => first | exact (congrArg (Value.int .u8) v0) | exact rfl); intro w8 h8 hg8; rw [HO.out] at h8; have HS8 := Lib.hid (HS.out.step h8 hg8 HGW.out HGS.out); clear h8 hg8)
                          go_roundw
                          case rel => exact ⟨j + 1, by omega, by go_num, HS8⟩
                          case measure => simp [intOf]; omega
                        · obtain rfl : j = 4 := by omega
                          clear hltj hj
                          go_wp2
                          go_roundw
                          case rel => exact ⟨k + 1, by omega, by go_num, HS⟩
                          case measure => simp [intOf]; omega
                    · obtain rfl : k = 8 := by omega
                      have HE : Hid (wr.heap[g7]? = some (.cells (bblk (Sha.sum l)) 40)) := Lib.hid (by have h := HS.out.1; rw [HSS.out, outN_all] at h; exact h)
                      have HL := Lib.hid (sum_length l)
                      obtain ⟨R, hR⟩ : ∃ R, R = Sha.sum l := ⟨_, rfl⟩
                      rw [← hR] at HE HL
                      clear hlt hk
                      go_wp2_with (first
                        | (refine wpList_load_row rfl 40 (.tmp 11) rfl g7 rfl 40 (bblk R) (0, 0) _ HE.out Try.underlying40 rfl (by rw [bblk_size, HL.out]; kernel_rfl) ?_)
                        | (refine store_block rfl 40 (.tmp 2) (.tmp 99) rfl w.heap.size 40 (bblk (List.replicate 32 0)) (bblk R) rfl rfl HS.out.2.2.1 (by rw [bblk_size, HL.out]; rfl) (by rw [bblk_size, HL.out]; kernel_rfl) (bblk_one _) ?_; intro w9 h9 hg9 _))
                      exact bodyPost_ret (v := .agg (bblk R)) (results_cell_row Try.results29 _ _ w.heap.size 40 (bblk R) (0, 0) _ rfl h9 Try.underlying40 rfl (by rw [bblk_size, HL.out]; kernel_rfl)) rfl
                        ⟨by rw [hR], below_grown HS.out.2.2.2 hg9 HS.out.2.2.2.size (Nat.le_refl _)⟩

end Go.Proofs.Ytnkbkkbpmjemiaa

/- The law CrcSpoilt answers true: a byte that is changed, whichever, changes the sum. Conditions: the first argument reads as bytes. -/
import Derived.Test.YtnkbkkbpmjemiaaCrcWalks
namespace Go.Proofs.Ytnkbkkbpmjemiaa
open Go.RowKit Crc

theorem sum1_calls {w : World} {A : Option Addr} {n c : Nat} {l : List UInt8} {S : Nat} (hn : l.length = n) (hl : n ≤ 9223372036854775807) (hr : BRead w A l) (hs : sum 0 l = S) (g : Nat) (hg : g = w.heap.size) :
    Calls Try.prog 11 #[.slice (some ⟨g, 0, none⟩) 1 1] (w.alloc (.cells #[.slice A n c] 25)) fun e w' => e = .returned (.int .u32 (S : Int)) ∧ w.alloc (.cells #[.slice A n c] 25) = w' := by
  subst hs hg
  refine sum_any _ 1 1 [l] _ rfl (by decide) (lread_one (Ai := A) (ci := c) ?_ (by omega) (hr.below ((Below.refl _ _).alloc (Nat.le_refl _) _)) rfl)
  rw [cell_of_row _ _ _ _ _ _ (alloc_at _ _), hn]
  rfl
theorem own_pos {w : World} {base n : Nat} {e : TypeId} {v : Value} {xs : List Value} (h : w.ownsRow base e 1 v n xs) (hn : 0 < n) : ∃ g cap, v = .slice (some ⟨g, 0, none⟩) n cap ∧ base ≤ g ∧ g < w.heap.size := by
  rcases h.2 with ⟨rfl, h0⟩ | ⟨g, cap, cur, rfl, hb, hh, _⟩
  · omega
  · exact ⟨g, cap, rfl, hb, heap_lt hh⟩
theorem xor_u8 (a b : UInt8) : bits .xor .u8 (a.toNat : Int) (b.toNat : Int) = ((a ^^^ b).toNat : Int) := by
  rw [u8_xor_nat a.toNat b.toNat a.toNat_lt b.toNat_lt, UInt8.toNat_xor]
theorem xor_ne {a b : UInt8} (h : b ≠ 0) : a ≠ a ^^^ b := by
  intro e
  apply h
  have e2 : a ^^^ a = a ^^^ (a ^^^ b) := by rw [← e]
  rw [← UInt8.xor_assoc, UInt8.xor_self, UInt8.zero_xor] at e2
  exact e2.symm
theorem short_m {A : Option Addr} {n c k m : Nat} (hm : m = min n k) (hn : n ≤ c) (hc : c ≤ 9223372036854775807) (hk : k ≤ 9223372036854775807) (w : World) :
    Calls Try.prog 10 #[.slice A n c, .int .i64 k] w fun e w' => e = .returned (.slice A m c) ∧ w = w' := by
  subst hm; exact short_any A n c k w hn hc hk

/-- What the changed copy is good for. -/
theorem spoil {w w1 w2 : World} {A : Option Addr} {m c g cap j : Nat} {lb : List UInt8} {X : UInt8} {v : Value} (hm : m ≤ 200) (hj : j < m) (hX : X ≠ 0) (hl : lb.length = m) (hr : BRead w A lb) (hb : Below w.heap.size w w1) (hg : w.heap.size ≤ g) (hv : v.ownBlock = none)
    (hgr : w1.grownBy w2 v.ownBlock) (ho : w2.ownsRow w.heap.size 5 1 (.slice (some ⟨g, 0, none⟩) m cap) m (lb.map byteV)) :
    ∃ b d : UInt8, w2.cell? ⟨g, j, none⟩ = some (.int .u8 (b.toNat : Int)) ∧ w2.frozen? ⟨g, j, none⟩ = false ∧ bits .xor .u8 (b.toNat : Int) (X.toNat : Int) = (d.toNat : Int) ∧
      ∃ S T : Nat, S ≠ T ∧ Below w.heap.size w (w2.setCell ⟨g, j, none⟩ (.int .u8 (d.toNat : Int))) ∧
        (Calls Try.prog 11 #[.slice (some ⟨w2.heap.size, 0, none⟩) 1 1] ((w2.setCell ⟨g, j, none⟩ (.int .u8 (d.toNat : Int))).alloc (.cells #[.slice A m c] 25)) fun e w' => e = .returned (.int .u32 (S : Int)) ∧ (w2.setCell ⟨g, j, none⟩ (.int .u8 (d.toNat : Int))).alloc (.cells #[.slice A m c] 25) = w') ∧
        (Calls Try.prog 11 #[.slice (some ⟨w2.heap.size + 1, 0, none⟩) 1 1] (((w2.setCell ⟨g, j, none⟩ (.int .u8 (d.toNat : Int))).alloc (.cells #[.slice A m c] 25)).alloc (.cells #[.slice (some ⟨g, 0, none⟩) m cap] 25)) fun e w' => e = .returned (.int .u32 (T : Int)) ∧ ((w2.setCell ⟨g, j, none⟩ (.int .u8 (d.toNat : Int))).alloc (.cells #[.slice A m c] 25)).alloc (.cells #[.slice (some ⟨g, 0, none⟩) m cap] 25) = w') := by
  have hj' : j < lb.length := by omega
  have hb2 : Below w.heap.size w w2 := hb.grown hgr hb.size (fun k hk => by rw [hv] at hk; cases hk)
  refine ⟨lb[j], lb[j] ^^^ X, ?_, ho.frozenAt j, xor_u8 _ _, sum 0 lb, sum 0 (lb.set j (lb[j] ^^^ X)), ?_, hb2.setCell hg _, ?_, ?_⟩
  · rw [ho.cellAt j (by omega), List.getElem?_map, List.getElem?_eq_getElem hj']
    rfl
  · intro e
    exact xor_ne hX (sum_set (by decide) lb j hj' _ e)
  · refine sum1_calls hl (by omega) (hr.below (hb2.setCell hg _)) rfl _ ?_
    simp
  · obtain ⟨h1, _⟩ := ho.stored j (byteV (lb[j] ^^^ X))
    have h2 : (w2.setCell ⟨g, j, none⟩ (.int .u8 ((lb[j] ^^^ X).toNat : Int))).ownsRow w.heap.size 5 1 (.slice (some ⟨g, 0, none⟩) m cap) m ((lb.set j (lb[j] ^^^ X)).map byteV) := by
      rw [List.map_set]; exact h1
    obtain ⟨A', c', e, _, _, h3, h4⟩ := own_bread (h2.alloc (.cells #[.slice A m c] 25))
    simp only [Value.slice.injEq] at e
    obtain ⟨rfl, _, rfl⟩ := e
    refine sum1_calls h3 (by omega) h4 rfl _ ?_
    simp

set_option maxHeartbeats 1000000 in
theorem crcspoilt_walk (A : Option Addr) (n c : Nat) (l : List UInt8) (at_ : Int) (X : UInt8) (w : World) (hn : l.length = n) (hnc : n ≤ c) (hc : c ≤ 9223372036854775807) (hA : A = none → c = 0) (hr : BRead w A l)
    (ha1 : -9223372036854775808 ≤ at_) (ha2 : at_ ≤ 9223372036854775807) :
    Calls Try.prog 5 #[.slice A n c, .int .i64 at_, .int .u8 (X.toNat : Int)] w fun e w' => e = .returned (.bool true) ∧ Below w.heap.size w w' := by
  obtain ⟨m, hm⟩ : ∃ m, m = min n 200 := ⟨_, rfl⟩
  have hmc : m ≤ 200 := by omega
  have hl : (l.take 200).length = m := by rw [List.length_take]; omega
  have HS : Hid (∀ w, Calls Try.prog 10 #[.slice A n c, .int .i64 ((200 : Nat) : Int)] w fun e w' => e = .returned (.slice A m c) ∧ w = w') := fun w => short_m hm hnc hc (by decide) w
  have HR := Lib.hid (hr.take 200)
  have HL := Lib.hid hl
  have HA := Lib.hid hA
  clear hr hl hA hn hm
  generalize l.take 200 = lb at HR HL
  by_cases h0 : m = 0
  · subst h0
    go_enter Try.func5, Try.ntmps5
    go_wp2_with (first | (go_at_call 9; refine (crcbegun_any _).mono ?_; rintro e w1 ⟨rfl, hb1⟩; have HB1 := Lib.hid hb1; clear hb1) | (go_at_call 10; refine (HS.out _).mono ?_; rintro e w1 ⟨rfl, rfl⟩))
    go_ret
    exact ⟨rfl, HB1.out⟩
  · have hm0 : ((m : Int) == 0) = false := by rw [beq_eq_false_iff_ne]; omega
    by_cases hX : X = 0
    · subst hX
      go_enter Try.func5, Try.ntmps5
      go_wp2_with (first | (go_at_call 9; refine (crcbegun_any _).mono ?_; rintro e w1 ⟨rfl, hb1⟩; have HB1 := Lib.hid hb1; clear hb1) | (go_at_call 10; refine (HS.out _).mono ?_; rintro e w1 ⟨rfl, rfl⟩))
      go_ret
      exact ⟨rfl, HB1.out⟩
    · have hX0 : ((X.toNat : Int) == 0) = false := by
        rw [beq_eq_false_iff_ne]
        intro h
        exact hX (UInt8.toNat_inj.1 (by show X.toNat = 0; omega))
      have HX := Lib.hid hX
      clear hX
      by_cases ha : at_ < 0
      · go_enter Try.func5, Try.ntmps5
        go_wp2_with (first | (go_at_call 9; refine (crcbegun_any _).mono ?_; rintro e w1 ⟨rfl, hb1⟩; have HB1 := Lib.hid hb1; clear hb1) | (go_at_call 10; refine (HS.out _).mono ?_; rintro e w1 ⟨rfl, rfl⟩))
        go_ret
        exact ⟨rfl, HB1.out⟩
      · have ha' : 0 ≤ at_ := by omega
        obtain ⟨j, hj⟩ : ∃ j : Nat, at_ % (m : Int) = (j : Int) := Int.eq_ofNat_of_zero_le (Int.emod_nonneg _ (by omega))
        have hjm : j < m := by have := Int.emod_lt_of_pos at_ (b := (m : Int)) (by omega); omega
        go_enter Try.func5, Try.ntmps5
        go_wp2_with (first | (go_at_call 9; refine (crcbegun_any _).mono ?_; rintro e w1 ⟨rfl, hb1⟩; have HB1 := Lib.hid hb1; have HR1 := Lib.hid (HR.out.below hb1); have hs1 := hb1.size; clear hb1) | (go_at_call 10; refine (HS.out _).mono ?_; rintro e w1 ⟨rfl, rfl⟩) | (at_builtin; go_must (refine append_bytes rfl (.const (.slice none 0 0)) (.tmp 26) rfl w.heap.size _ 0 [] rfl (World.ownsRow_nil _ _ _ _) A m c lb rfl HA.out HL.out HR1.out (by unfold maxLen; omega) (by omega) hs1 ?_; intro v2 w2 hown2 hg2; obtain ⟨g, cap, rfl, hg, hgs⟩ := own_pos hown2 (by omega); simp only [Nat.zero_add, List.nil_append] at hown2; obtain ⟨b, d, hc2, hf2, hx2, S, T, hne, hb3, k1, k2⟩ := spoil (c := c) hmc hjm HX.out HL.out HR.out HB1.out hg rfl hg2 hown2; have HNE := Lib.hid hne; have HB3 := Lib.hid hb3; have K1 := Lib.hid k1; have K2 := Lib.hid k2; clear hown2 hg2 hne hb3 k1 k2)))
        have hne : ((S : Int) != (T : Int)) = true := by
          rw [bne_iff_ne]
          intro h
          exact HNE.out (by omega)
        refine K1.out.mono ?_
        rintro e w4 ⟨rfl, rfl⟩
        go_wp2_with fail
        refine K2.out.mono ?_
        rintro e w5 ⟨rfl, rfl⟩
        go_wp2
        go_ret
        exact ⟨rfl, (HB3.out.alloc HB3.out.size _).alloc (by have := HB3.out.size; simp at this; simp; omega) _⟩

end Go.Proofs.Ytnkbkkbpmjemiaa

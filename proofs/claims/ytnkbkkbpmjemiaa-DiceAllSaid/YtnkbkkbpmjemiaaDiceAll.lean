/- The law DiceAll answers true: throws come from the list, by rests, and behind it ones. Conditions: the arguments read as lists of numbers of 64 bits. -/
import Derived.Test.YtnkbkkbpmjemiaaDiceWalks
import Derived.Test.YtnkbkkbpmjemiaaDiceRegion
import Derived.Deep.DeepCutAuto
namespace Go.Proofs.Ytnkbkkbpmjemiaa
open Go.RowKit

theorem block_read {w : World} {b : Nat} {cur : Array Value} {t : TypeId} {m : Nat × Nat} (h : w.heap[b]? = some (.cells cur t m)) (l : List Int) (hc : cur.toList.take l.length = l.map intV) : IRead w (some ⟨b, 0, none⟩) l := by
  intro i hi
  refine ⟨_, rfl, ?_⟩
  rw [add_at, Nat.zero_add, cell_of_row w b i cur t m h]
  have e := congrArg (fun x : List Value => x[i]?) hc
  simp only [List.getElem?_take, List.getElem?_map, if_pos hi] at e
  rw [← Array.getElem?_toList, e, getD_eq l i 0 hi, List.getElem?_eq_getElem hi]
  rfl
theorem grown_below {B : Nat} {w w1 w2 : World} {g : Nat} (h : Below B w w1) (hg : w1.grownBy w2 (some g)) (hB : B ≤ w1.heap.size) (hb : B ≤ g) : Below B w w2 := h.grown hg hB (fun k hk => by cases hk; exact hb)

/-- A throw told v; the cup holds l. -/
def RolledAny (w : World) (g : Nat) (l : List Int) (v : Int) (e : Ending) (w' : World) : Prop := e = .returned (.int .i64 v) ∧ w.grownBy w' (some g) ∧ CupAt w' g l
def nextL (l : List Int) (s : Int) : List Int := if s < 1 then l else l.tail
theorem roll_any (g : Nat) (s : Int) (l : List Int) (w : World) (hs : s ≤ 9223372036854775807) (hl : I64 l) (hc : CupAt w g l) :
    Calls Try.prog 16 #[.pointer (some ⟨g, 0, none⟩), .int .i64 s] w (RolledAny w g (nextL l s) (rollV l s)) := by
  unfold nextL rollV
  by_cases h : s < 1
  · rw [if_pos h, if_pos h]
    refine (roll_low _ s w h).mono ?_
    rintro e w' ⟨rfl, rfl⟩
    exact ⟨rfl, World.grownBy.refl _ _, hc⟩
  · rw [if_neg h, if_neg h]
    cases l with
    | nil =>
      refine (roll_end g s w (by omega) hc).mono ?_
      rintro e w' ⟨rfl, rfl⟩
      exact ⟨rfl, World.grownBy.refl _ _, hc⟩
    | cons x l =>
      refine (roll_some g s x l w (by omega) hs (hl x (by simp)) hc).mono ?_
      rintro e w' ⟨rfl, ⟨u, rfl⟩, hn⟩
      exact ⟨rfl, set_grown _ _ _, hn⟩

set_option maxHeartbeats 400000 in
theorem dicebegun_any (w : World) : Calls Try.prog 14 #[] w fun e w' => e = .returned (.bool true) ∧ Below w.heap.size w w' := by
  have HB : Hid (Below w.heap.size w (w.alloc (.cells #[.int .i64 7, .int .i64 (-1)] 3))) := Lib.hid ((Below.refl _ _).alloc (Nat.le_refl _) _)
  go_enter Try.func14, Try.ntmps14
  go_wp2_with fail
  refine (new_any _ _ _ [7, -1] _ rfl (by decide) (fun h => by cases h) (block_read (alloc_at _ _) _ rfl)).mono ?_
  rintro e w1 ⟨g, rfl, hg, hc, hb⟩
  have hg1 : w.heap.size + 1 ≤ g := by simpa using hg
  have H1 : Hid (Below w.heap.size w w1) := Lib.hid (HB.out.trans (hb.mono (by simp)))
  have HC := Lib.hid hc
  clear hg hc hb
  go_wp2_with fail
  refine (roll_any g 6 [7, -1] _ (by decide) (by intro x hx; simp at hx; omega) HC.out).mono ?_
  rintro e w2 ⟨rfl, h2, hc2⟩
  have H2 := Lib.hid (grown_below H1.out h2 H1.out.size (by omega))
  have HC2 : Hid (CupAt w2 g [-1]) := Lib.hid hc2
  clear h2 hc2
  rw [show rollV [7, -1] 6 = 2 from rfl]
  go_wp2_with fail
  refine (roll_any g 6 [-1] _ (by decide) (by intro x hx; simp at hx; omega) HC2.out).mono ?_
  rintro e w3 ⟨rfl, h3, hc3⟩
  have H3 := Lib.hid (grown_below H2.out h3 H2.out.size (by omega))
  have HC3 : Hid (CupAt w3 g []) := Lib.hid hc3
  clear h3 hc3
  rw [show rollV [-1] 6 = 6 from rfl]
  go_wp2_with fail
  refine (roll_any g 6 [] _ (by decide) (by intro x hx; simp at hx) HC3.out).mono ?_
  rintro e w4 ⟨rfl, h4, hc4⟩
  have H4 := Lib.hid (grown_below H3.out h4 H3.out.size (by omega))
  have HC4 : Hid (CupAt w4 g []) := Lib.hid hc4
  clear h4 hc4
  rw [show rollV [] 6 = 1 from rfl]
  go_wp2_with fail
  refine (left_any g [] _ HC4.out).mono ?_
  rintro e w5 ⟨rfl, rfl⟩
  go_wp2
  go_ret
  exact ⟨rfl, H4.out⟩

def nextK (n k : Nat) (s : Int) : Nat := if s < 1 then k else if n ≤ k then k else k + 1
theorem nextK_le {n k : Nat} {s : Int} (h : k ≤ n) : nextK n k s ≤ n := by unfold nextK; split <;> (try split) <;> omega
theorem nextK_drop {l : List Int} {n k : Nat} {s : Int} (hl : l.length = n) : nextL (l.drop k) s = l.drop (nextK n k s) := by
  unfold nextL nextK
  split
  · rfl
  · split
    · rw [List.drop_eq_nil_of_le (by omega)]; rfl
    · rw [List.tail_drop]
/-- The reference's cup was thrown: v was told; it was taken as far as k'. -/
def RefAny (w : World) (g : Nat) (A : Option Addr) (n c k' : Nat) (v : Int) (e : Ending) (w' : World) : Prop := e = .returned (.int .i64 v) ∧ w.grownBy w' (some g) ∧ RefAt w' g A n c k'
theorem drewN_grown (w : World) (k : Nat) (row : Option Nat) : w.grownBy (w.drewN k) row := ⟨rfl, rfl, rfl, Nat.le_refl _, fun _ _ _ => rfl⟩
theorem refat_set {w : World} {g : Nat} {A : Option Addr} {n c k : Nat} (h : RefAt w g A n c k) (j k' : Nat) : RefAt ((w.drewN j).setCell ⟨g, 1, none⟩ (.int .i64 (k' : Int))) g A n c k' := by
  unfold RefAt
  show ((w.drewN j).heap.modify g _)[g]? = _
  rw [Array.getElem?_modify]
  simp
  exact ⟨_, h, rfl⟩
theorem refroll_any (g : Nat) (s : Int) (A : Option Addr) (n c k : Nat) (l : List Int) (w : World) (hs : s ≤ 9223372036854775807) (hl : l.length = n) (hn : n ≤ 30) (hI : I64 l) (hr : IRead w A l) (hc : RefAt w g A n c k) :
    Calls Try.prog 17 #[.pointer (some ⟨g, 0, none⟩), .int .i64 s] w (RefAny w g A n c (nextK n k s) (rollV (l.drop k) s)) := by
  unfold nextK rollV
  by_cases h : s < 1
  · rw [if_pos h, if_pos h]
    refine (refroll_low _ s w h).mono ?_
    rintro e w' ⟨rfl, rfl⟩
    exact ⟨rfl, World.grownBy.refl _ _, hc⟩
  · rw [if_neg h, if_neg h]
    by_cases hk : n ≤ k
    · rw [if_pos hk, List.drop_eq_nil_of_le (by omega)]
      refine (refroll_end g s A n c k w (by omega) hk hc).mono ?_
      rintro e w' ⟨rfl, j, rfl⟩
      exact ⟨rfl, drewN_grown _ _ _, hc⟩
    · rw [if_neg hk]
      have hk' : k < l.length := by omega
      obtain ⟨ad, rfl, hcell⟩ := hr k hk'
      rw [getD_eq l k 0 hk'] at hcell
      rw [List.drop_eq_getElem_cons hk']
      refine (refroll_some g s l[k] ad n c k w (by omega) hs (hI _ (List.getElem_mem hk')) (by omega) hn hc hcell).mono ?_
      rintro e w' ⟨rfl, j, rfl⟩
      exact ⟨rfl, ⟨rfl, rfl, rfl, by simp [World.setCell], fun b _ hb => Below.heap_setCell _ _ _ b (fun e => hb (by rw [e]))⟩, refat_set hc j (k + 1)⟩
theorem rollV_low {l : List Int} {s : Int} (h : s < 1) : rollV l s = 0 := by unfold rollV; rw [if_pos h]
theorem rollV_in {l : List Int} {s : Int} (h : 1 ≤ s) : 1 ≤ rollV l s ∧ rollV l s ≤ s := by
  unfold rollV
  rw [if_neg (by omega)]
  cases l with
  | nil => exact ⟨Int.le_refl _, h⟩
  | cons x l =>
    have m1 := Int.emod_nonneg x (by omega : s ≠ 0)
    have m2 := Int.emod_lt_of_pos x (by omega : 0 < s)
    show 1 ≤ x % s + 1 ∧ x % s + 1 ≤ s
    omega

set_option maxRecDepth 100000 in
set_option maxHeartbeats 2000000 in
theorem diceall_walk (A : Option Addr) (n c : Nat) (l : List Int) (As : Option Addr) (ns cs : Nat) (ss : List Int) (w : World)
    (hl : l.length = n) (hnc : n ≤ c) (hc : c ≤ 9223372036854775807) (hA : A = none → c = 0) (hI : I64 l) (hr : IRead w A l)
    (hls : ss.length = ns) (hIs : I64 ss) (hrs : IRead w As ss) :
    Calls Try.prog 6 #[.slice A n c, .slice As ns cs] w fun e w' => e = .returned (.bool true) ∧ Below w.heap.size w w' := by
  obtain ⟨m, hm⟩ : ∃ m, m = min n 30 := ⟨_, rfl⟩
  have HR := Lib.hid (hr.take 30)
  have HI : Hid (I64 (l.take 30)) := Lib.hid (fun x hx => hI x (List.mem_of_mem_take hx))
  have HL : Hid ((l.take 30).length = m) := Lib.hid (by rw [List.length_take]; omega)
  have HA : Hid (A = none → c = 0 ∧ m = 0) := Lib.hid (fun h => ⟨hA h, by have := hA h; omega⟩)
  have HRS := Lib.hid hrs
  have HIS := Lib.hid hIs
  have HLS := Lib.hid hls
  have hm30 : m ≤ 30 := by omega
  clear hr hI hA hl hrs hIs hls
  generalize l.take 30 = lb at HR HI HL
  have hmn : m = min n 30 := hm
  have HMN := Lib.hid hmn
  clear hm hmn
  go_enter Try.func6, Try.ntmps6
  go_wp2_with fail
  refine (dicebegun_any _).mono ?_
  rintro e w1 ⟨rfl, hb1⟩
  have HB1 := Lib.hid hb1
  clear hb1
  go_upto_if 16 with (fail)
  go_cut [0] (fun s0 wx => s0 = .slice A m c ∧ wx = w1)
  case first =>
    have hm := HMN.out
    by_cases hn : 30 < n
    · obtain rfl : m = 30 := by omega
      clear hm
      go_wp2
      go_meet
      exact ⟨rfl, rfl⟩
    · obtain rfl : m = n := by omega
      clear hm
      go_wp2
      go_meet
      exact ⟨rfl, rfl⟩
  case rest =>
    obtain ⟨rfl, rfl⟩ := hcut
    go_wp2_with fail
    refine (new_any A m c lb _ HL.out hm30 HA.out (HR.out.below HB1.out)).mono ?_
    rintro e w2 ⟨g1, rfl, hg1, hc1, hb2⟩
    have hs1 := HB1.out.size
    have hs2 := hb2.size
    have hlt : g1 < w2.heap.size := by obtain ⟨_, _, hh, _⟩ := hc1; exact heap_lt hh
    have HB2 := Lib.hid (HB1.out.trans (hb2.mono hs1))
    have HC1 := Lib.hid hc1
    clear hb2 hc1
    obtain ⟨g2, hg2⟩ : ∃ g2, g2 = w2.heap.size := ⟨_, rfl⟩
    go_wp2_with fail
    have HG2 := Lib.hid hg2
    rw [← hg2] at hlt hs2 ⊢
    clear hg2
    go_loopw [4, 9, 10] (fun _ i _ wr => ∃ j k : Nat, j ≤ ns ∧ j ≤ 40 ∧ k ≤ m ∧ i = .int .i64 j ∧ Hid (Below w.heap.size w wr) ∧ Hid (CupAt wr g1 (lb.drop k)) ∧ Hid (RefAt wr g2 A m c k)) (fun _ i _ _ => 40 - (intOf i).toNat)
    case atStart => exact ⟨0, 0, Nat.zero_le _, Nat.zero_le _, Nat.zero_le _, rfl, Lib.hid (HB2.out.alloc (by have := HG2.out; omega) _), Lib.hid (HC1.out.kept (g' := g2) (World.grownBy_alloc _ _ _) hlt), Lib.hid (by rw [HG2.out]; exact alloc_at _ _)⟩
    case round =>
      obtain ⟨j, k, hj, hj40, hk, rfl, HB, HC, HRf⟩ := hrel
      by_cases hin : j < ns ∧ j < 40
      · obtain ⟨hjn, h40⟩ := hin
        have hjs : j < ss.length := by have := HLS.out; omega
        obtain ⟨ads, rfl, hcell⟩ := HRS.out j hjs
        rw [getD_eq ss j 0 hjs] at hcell
        have hsb := HIS.out _ (List.getElem_mem hjs)
        have hcell' : wr.cell? (ads.add j) = some (.int .i64 ss[j]) := (HB.out.cell (World.block_lt_of_cell? w _ hcell)).trans hcell
        have hlow := World.block_lt_of_cell? w _ hcell
        rw [add_block] at hlow
        generalize ss[j] = s at hcell hcell' hsb
        clear hcell hjs
        obtain ⟨hsl, hsh⟩ := hsb
        go_wp2_with fail
        refine (roll_any g1 s (lb.drop k) _ hsh (fun x hx => HI.out x (List.mem_of_mem_drop hx)) HC.out).mono ?_
        rintro e w3 ⟨rfl, hg3, hc3⟩
        have HB3 := Lib.hid (grown_below HB.out hg3 HB.out.size (by omega))
        have hk' := nextK_le (s := s) hk
        have hc3' : CupAt w3 g1 (lb.drop (nextK m k s)) := by rw [← nextK_drop HL.out]; exact hc3
        have hr3 : RefAt w3 g2 A m c k := (hg3.block g2 (heap_lt HRf.out) (by simp; omega)).trans HRf.out
        have hcell3 : w3.cell? (ads.add j) = some (.int .i64 s) := hg3.cell hcell' (by rw [add_block]; simp; omega)
        have hV1 : 1 ≤ s → 1 ≤ rollV (lb.drop k) s ∧ rollV (lb.drop k) s ≤ s := fun h => rollV_in h
        have K17 : Hid (∀ wx, wx.heap = w3.heap → wx.os = w3.os → wx.tape = w3.tape → wx.output = w3.output → Calls Try.prog 17 #[.pointer (some ⟨g2, 0, none⟩), .int .i64 s] wx (P17 (fun w' => Below w.heap.size w w' ∧ CupAt w' g1 (lb.drop (nextK m k s)) ∧ RefAt w' g2 A m c (nextK m k s)) (ads.add j) ⟨g2, 1, none⟩ s (nextK m k s) (rollV (lb.drop k) s))) := by
          intro wx hx1 hx2 hx3 hx4
          have hbx : Below w.heap.size w wx := ⟨hx2.trans HB3.out.os, hx3.trans HB3.out.tape, hx4.trans HB3.out.output, by rw [hx1]; exact HB3.out.size, fun b hb => by rw [hx1]; exact HB3.out.block b hb⟩
          have hcx : CupAt wx g1 (lb.drop (nextK m k s)) := by
            obtain ⟨A', c', q1, q2, q3, q4, q5⟩ := hc3'
            refine ⟨A', c', by rw [hx1]; exact q1, q2, q3, q4, fun i hi => ?_⟩
            obtain ⟨ad, q6, q7⟩ := q5 i hi
            exact ⟨ad, q6, by rw [World.cell?_of_block (w := w3) (by rw [hx1])]; exact q7⟩
          have hrx : RefAt wx g2 A m c k := by unfold RefAt; rw [hx1]; exact hr3
          have hcellx : wx.cell? (ads.add j) = some (.int .i64 s) := by rw [World.cell?_of_block (w := w3) (by rw [hx1])]; exact hcell3
          refine (refroll_any g2 s A m c k lb wx hsh HL.out hm30 HI.out (HR.out.below hbx) hrx).mono ?_
          rintro e w' ⟨rfl, hg, hr'⟩
          exact ⟨rfl, hg.cell hcellx (by rw [add_block]; simp; omega), (two_cells hr').2.1, grown_below hbx hg hbx.size (by omega), hcx.kept hg (by omega), hr'⟩
        have K18 : Hid (∀ wx, (Below w.heap.size w wx ∧ CupAt wx g1 (lb.drop (nextK m k s)) ∧ RefAt wx g2 A m c (nextK m k s)) → Calls Try.prog 18 #[.pointer (some ⟨g1, 0, none⟩)] wx fun e w' => e = .returned (.int .i64 ((m : Int) - (nextK m k s : Int))) ∧ wx = w') := by
          intro wx hx
          have e : ((lb.drop (nextK m k s)).length : Int) = (m : Int) - (nextK m k s : Int) := by rw [List.length_drop, HL.out]; omega
          rw [← e]
          exact left_any g1 _ wx hx.2.1
        have HC3 := Lib.hid hcell3
        clear hc3 hc3' hg3 hr3 hcell' hcell3
        generalize nextK m k s = k' at hk' K17 K18
        generalize rollV (lb.drop k) s = V at hV1 K17 ⊢
        go_wp2_with fail
        by_cases hs : 1 ≤ s
        · obtain ⟨v1, v2⟩ := hV1 hs
          clear hV1
          refine only_normal (region13_yes A m c ns cs g1 g2 j k' ads s V _ w3 hjn hm30 hk' hs v1 v2 HC3.out K17 K18 (Lib.hid (fun wx => roll_nil s wx hs)) ?_)
          refine Lib.hid (fun w' h => ?_)
          have hb' := Lib.hid h.1
          have hc' := Lib.hid h.2.1
          have hr' := Lib.hid h.2.2
          clear h
          dsimp only
          go_wp2
          go_roundw
          case rel => exact ⟨j + 1, k', by omega, by omega, hk', by go_num, hb', hc', hr'⟩
          case measure => simp [intOf]; omega
        · refine only_normal (region13_no A m c ns cs g1 g2 j k' ads s V _ w3 hjn hm30 hk' (by omega) HC3.out K17 K18 (Lib.hid (fun wx => roll_low none s wx (by omega))) ?_)
          refine Lib.hid (fun w' h => ?_)
          have hb' := Lib.hid h.1
          have hc' := Lib.hid h.2.1
          have hr' := Lib.hid h.2.2
          clear h
          dsimp only
          go_wp2
          go_roundw
          case rel => exact ⟨j + 1, k', by omega, by omega, hk', by go_num, hb', hc', hr'⟩
          case measure => simp [intOf]; omega
      · by_cases hlt : j < ns
        all_goals
          go_wp2_with (go_at_call 18; refine (left_nil _).mono ?_; rintro e w5 ⟨rfl, rfl⟩)
          go_ret
          exact ⟨rfl, HB.out⟩

end Go.Proofs.Ytnkbkkbpmjemiaa

/- The law CrcAll answers true: any bytes have their sum, however they are cut, and whatever comes behind. Conditions: the arguments read as rows of bytes. -/
import Derived.Test.YtnkbkkbpmjemiaaCrcWalks
namespace Go.Proofs.Ytnkbkkbpmjemiaa
open Go.RowKit Crc

def shortRows (AF : Nat → Option Addr) (CF : Nat → Nat) (ls : List (List UInt8)) (k : Nat) : List Value := (List.range k).map fun i => Value.slice (AF i) (min (ls.getD i []).length 100) (CF i)
def shorts (ls : List (List UInt8)) (k : Nat) : List (List UInt8) := (ls.take k).map (·.take 100)
def flat (ls : List (List UInt8)) (k : Nat) : List UInt8 := (shorts ls k).flatten
theorem shortRows_succ (AF : Nat → Option Addr) (CF : Nat → Nat) (ls : List (List UInt8)) (k : Nat) : shortRows AF CF ls (k + 1) = shortRows AF CF ls k ++ [.slice (AF k) (min (ls.getD k []).length 100) (CF k)] := by
  simp [shortRows, List.range_succ]
theorem shorts_succ (ls : List (List UInt8)) (k : Nat) (h : k < ls.length) : shorts ls (k + 1) = shorts ls k ++ [(ls.getD k []).take 100] := by
  unfold shorts; rw [take_snoc ls k [] h, List.map_append]; rfl
theorem flat_succ (ls : List (List UInt8)) (k : Nat) (h : k < ls.length) : flat ls (k + 1) = flat ls k ++ (ls.getD k []).take 100 := by
  unfold flat; rw [shorts_succ ls k h, List.flatten_append]; simp
theorem flat_len (ls : List (List UInt8)) (k : Nat) (h : k ≤ ls.length) : (flat ls k).length ≤ 100 * k := by
  induction k with
  | zero => simp [flat, shorts]
  | succ k ih =>
    rw [flat_succ ls k (by omega), List.length_append]
    have := ih (by omega)
    have : ((ls.getD k []).take 100).length ≤ 100 := by simp; omega
    omega
theorem shorts_len (ls : List (List UInt8)) (k : Nat) (h : k ≤ ls.length) : (shorts ls k).length = k := by simp [shorts]; omega

theorem step1 {w wr w3 : World} {va vl : Value} {n m : Nat} {xs ys : List Value} {o : Obj} (hb : Below w.heap.size w wr) (ho1 : wr.ownsRow w.heap.size 25 1 vl n xs) (ho2 : wr.ownsRow w.heap.size 5 1 va m ys)
    (hg : (wr.alloc o).grownBy w3 vl.ownBlock) : Below w.heap.size w w3 ∧ w3.ownsRow w.heap.size 5 1 va m ys ∧ w.heap.size ≤ w3.heap.size := by
  have hs := hb.size
  have h := Below.grown (hb.alloc hs o) hg (by simp; omega) (own_lo ho1)
  exact ⟨h, (ho2.alloc o).kept hg (own_apart ho2 ho1 (by decide)), h.size⟩
theorem step2 {w w3 w4 : World} {va vl : Value} {n m : Nat} {xs ys : List Value} (hb : Below w.heap.size w w3) (ho1 : w3.ownsRow w.heap.size 25 1 vl n xs) (ho2 : w3.ownsRow w.heap.size 5 1 va m ys)
    (hg : w3.grownBy w4 va.ownBlock) : Below w.heap.size w w4 ∧ w4.ownsRow w.heap.size 25 1 vl n xs :=
  ⟨hb.grown hg hb.size (own_lo ho2), ho1.kept hg (own_apart ho1 ho2 (by decide))⟩

theorem lread_block {w : World} {b : Nat} {cur : Array Value} {t : TypeId} {m : Nat × Nat} (h : w.heap[b]? = some (.cells cur t m)) (ls : List (List UInt8))
    (hc : ∀ i, i < ls.length → ∃ Ai ci, cur[i]? = some (.slice Ai (ls.getD i []).length ci) ∧ (ls.getD i []).length ≤ 9223372036854775807 ∧ BRead w Ai (ls.getD i [])) : LRead w (some ⟨b, 0, none⟩) ls := by
  intro i hi
  obtain ⟨Ai, ci, h1, h2, h3⟩ := hc i hi
  exact ⟨_, Ai, ci, rfl, by rw [add_at, Nat.zero_add, cell_of_row w b i cur t m h]; exact h1, h2, h3⟩
theorem shortRows_get (AF : Nat → Option Addr) (CF : Nat → Nat) (ls : List (List UInt8)) (k i : Nat) (h : i < k) : (shortRows AF CF ls k)[i]? = some (.slice (AF i) (min (ls.getD i []).length 100) (CF i)) := by
  simp [shortRows, h]
theorem shorts_get (ls : List (List UInt8)) (k i : Nat) (h : i < k) (hk : k ≤ ls.length) : (shorts ls k).getD i [] = (ls.getD i []).take 100 := by
  rw [getD_eq _ _ _ (by rw [shorts_len ls k hk]; exact h), getD_eq ls i [] (by omega)]
  simp [shorts]
theorem lread_shorts {w wr : World} {k : Nat} {AF : Nat → Option Addr} {CF : Nat → Nat} {ls : List (List UInt8)} {A : Option Addr}
    (he : ∀ i, i < ls.length → (ls.getD i []).length ≤ CF i ∧ CF i ≤ 9223372036854775807 ∧ (AF i = none → CF i = 0) ∧ BRead w (AF i) (ls.getD i []))
    (hb : Below w.heap.size w wr) (hk : k ≤ ls.length) (hr : ∀ j u, (shortRows AF CF ls k)[j]? = some u → ∃ ad, A = some ad ∧ wr.cell? (ad.add j) = some u) : LRead wr A (shorts ls k) := by
  intro i hi
  rw [shorts_len ls k hk] at hi
  obtain ⟨ad, rfl, hc⟩ := hr i _ (shortRows_get AF CF ls k i hi)
  obtain ⟨e1, e2, e3, e4⟩ := he i (by omega)
  rw [shorts_get ls k i hi hk]
  exact ⟨ad, AF i, CF i, rfl, by rw [hc, List.length_take, Nat.min_comm], by rw [List.length_take]; omega, (e4.below hb).take 100⟩
theorem sum_calls {w : World} {A : Option Addr} {n c : Nat} {ls : List (List UInt8)} {S : Nat} (hn : ls.length = n) (hl : n ≤ 9223372036854775807) (hr : LRead w A ls) (hs : sums 0 ls = S) :
    Calls Try.prog 11 #[.slice A n c] w fun e w' => e = .returned (.int .u32 (S : Int)) ∧ w = w' := by
  subst hs
  exact sum_any A n c ls w hn hl hr
/-- The tail's calls. -/
theorem tail_calls {wr : World} {Aa Am : Option Addr} {ca cm m nm : Nat} {la lm : List UInt8} (ha : la.length = m) (hm : lm.length = nm) (hla : m ≤ 9223372036854775807) (hlm : nm ≤ 9223372036854775807) (hra : BRead wr Aa la) (hrm : BRead wr Am lm) :
    (Calls Try.prog 12 #[.int .u32 0, .slice Aa m ca] wr fun e w' => e = .returned (.int .u32 (sum 0 la : Nat)) ∧ wr = w') ∧
    (Calls Try.prog 11 #[.slice (some ⟨wr.heap.size, 0, none⟩) 1 1] (wr.alloc (.cells #[.slice Aa m ca] 25)) fun e w' => e = .returned (.int .u32 (sum 0 la : Nat)) ∧ wr.alloc (.cells #[.slice Aa m ca] 25) = w') ∧
    (Calls Try.prog 13 #[.int .u32 (sum 0 la : Nat), .slice Am nm cm] (wr.alloc (.cells #[.slice Aa m ca] 25)) fun e w' => e = .returned (.int .u32 (sum (sum 0 la) lm : Nat)) ∧ wr.alloc (.cells #[.slice Aa m ca] 25) = w') ∧
    (Calls Try.prog 11 #[.slice (some ⟨wr.heap.size + 1, 0, none⟩) 2 2] ((wr.alloc (.cells #[.slice Aa m ca] 25)).alloc (.cells #[.slice Aa m ca, .slice Am nm cm] 25)) fun e w' => e = .returned (.int .u32 (sum (sum 0 la) lm : Nat)) ∧ (wr.alloc (.cells #[.slice Aa m ca] 25)).alloc (.cells #[.slice Aa m ca, .slice Am nm cm] 25) = w') := by
  have b1 : Below wr.heap.size wr (wr.alloc (.cells #[.slice Aa m ca] 25)) := (Below.refl _ _).alloc (Nat.le_refl _) _
  have b2 : Below wr.heap.size wr ((wr.alloc (.cells #[.slice Aa m ca] 25)).alloc (.cells #[.slice Aa m ca, .slice Am nm cm] 25)) := b1.alloc (by simp) _
  refine ⟨refmore_any 0 (by decide) Aa m ca la wr ha hla hra, ?_, ?_, ?_⟩
  · refine sum_calls (ls := [la]) rfl (by decide) (lread_block (alloc_at _ _) [la] ?_) rfl
    intro i hi
    obtain rfl : i = 0 := by simp at hi; omega
    exact ⟨Aa, ca, by rw [← ha]; rfl, by show la.length ≤ _; omega, hra.below b1⟩
  · exact more_any _ (sum_lt la (by decide)) Am nm cm lm _ hm hlm (hrm.below b1)
  · have e : ((wr.alloc (.cells #[.slice Aa m ca] 25)).alloc (.cells #[.slice Aa m ca, .slice Am nm cm] 25)).heap[wr.heap.size + 1]? = some (.cells #[.slice Aa m ca, .slice Am nm cm] 25) := by
      rw [← alloc_size wr (.cells #[.slice Aa m ca] 25)]; exact alloc_at _ _
    refine sum_calls (ls := [la, lm]) rfl (by decide) (lread_block e [la, lm] ?_) rfl
    intro i hi
    have h2 : i = 0 ∨ i = 1 := by simp at hi; omega
    rcases h2 with rfl | rfl
    · exact ⟨Aa, ca, by rw [← ha]; rfl, by show la.length ≤ _; omega, hra.below b2⟩
    · exact ⟨Am, cm, by rw [← hm]; rfl, by show lm.length ≤ _; omega, hrm.below b2⟩

set_option maxHeartbeats 1000000 in
theorem crcall_walk (A : Option Addr) (n c : Nat) (AF : Nat → Option Addr) (CF : Nat → Nat) (ls : List (List UInt8)) (Am : Option Addr) (nm cm : Nat) (lm : List UInt8) (w : World)
    (hn : ls.length = n) (_hl : n ≤ 9223372036854775807)
    (hp : ∀ i, i < ls.length → ∃ ad, A = some ad ∧ w.cell? (ad.add i) = some (.slice (AF i) (ls.getD i []).length (CF i)))
    (he : ∀ i, i < ls.length → (ls.getD i []).length ≤ CF i ∧ CF i ≤ 9223372036854775807 ∧ (AF i = none → CF i = 0) ∧ BRead w (AF i) (ls.getD i []))
    (hm : lm.length = nm) (hmc : nm ≤ cm) (hcm : cm ≤ 9223372036854775807) (hr : BRead w Am lm) :
    Calls Try.prog 4 #[.slice A n c, .slice Am nm cm] w fun e w' => e = .returned (.bool true) ∧ Below w.heap.size w w' := by
  have HP := Lib.hid hp
  have HE := Lib.hid he
  have HR := Lib.hid hr
  have HN := Lib.hid hn
  have HM := Lib.hid hm
  clear hp he hr hn hm
  go_enter Try.func4, Try.ntmps4
  go_wp2_with (go_at_call 9; refine (crcbegun_any _).mono ?_; rintro e w1 ⟨rfl, hb1⟩)
  have HB1 := Lib.hid hb1
  clear hb1
  go_loopw [6, 7, 8] (fun va vl i wr => ∃ k : Nat, k ≤ n ∧ k ≤ 8 ∧ i = .int .i64 k ∧ Hid (wr.ownsRow w.heap.size 25 1 vl k (shortRows AF CF ls k)) ∧ Hid (wr.ownsRow w.heap.size 5 1 va (flat ls k).length ((flat ls k).map byteV)) ∧ Hid (Below w.heap.size w wr)) (fun _ _ i _ => 8 - (intOf i).toNat)
  case atStart => exact ⟨0, Nat.zero_le _, Nat.zero_le _, rfl, World.ownsRow_nil _ _ _ _, World.ownsRow_nil _ _ _ _, HB1.out⟩
  case round =>
    obtain ⟨k, hk, hk8, rfl, HO1, HO2, HB⟩ := hrel
    have hsz := HB.out.size
    have hfl := flat_len ls k (by have := HN.out; omega)
    by_cases hin : k < n ∧ k < 8
    · obtain ⟨hlt, h8⟩ := hin
      have hlt' : k < ls.length := by have := HN.out; omega
      obtain ⟨ad, rfl, hc⟩ := HP.out k hlt'
      obtain ⟨e1, e2, e3, e4⟩ := HE.out k hlt'
      have hS := shortRows_succ AF CF ls k
      have hF := flat_succ ls k hlt'
      generalize ls.getD k [] = l at hc e1 e2 e3 e4 hS hF
      have hc' : wr.cell? (ad.add k) = some (.slice (AF k) l.length (CF k)) := (HB.out.cell (World.block_lt_of_cell? w _ hc)).trans hc
      generalize AF k = Ak at hc hc' e1 e2 e3 e4 hS
      generalize CF k = ck at hc hc' e1 e2 e3 e4 hS
      have E3 := Lib.hid e3
      have E4 := Lib.hid e4
      have HS := Lib.hid hS
      have HF := Lib.hid hF
      clear hS hF e3 e4 hc hlt'
      have hu : (wr.alloc (.cells #[.slice Ak (min l.length 100) ck] 25)).cell? ((⟨wr.heap.size, 0, none⟩ : Addr).add 0) = some (.slice Ak (min l.length 100) ck) := by
        rw [add_at, cell_of_row _ _ _ _ _ _ (alloc_at _ _)]; rfl
      have HU := Lib.hid hu
      clear hu
      have C1 : Hid (k + 1 ≤ maxLen) := Lib.hid (by unfold maxLen; omega)
      have C2 : Hid ((k + 1) * 24 ≤ 140737488355328) := Lib.hid (by omega)
      have C3 : Hid (w.heap.size ≤ (wr.alloc (.cells #[.slice Ak (min l.length 100) ck] 25)).heap.size) := Lib.hid (by simp; omega)
      have C4 : Hid ((l.take 100).length = min l.length 100) := Lib.hid (by simp; omega)
      have C5 : Hid ((flat ls k).length + min l.length 100 ≤ maxLen) := Lib.hid (by unfold maxLen; omega)
      have C6 : Hid (((flat ls k).length + min l.length 100) * 1 ≤ 140737488355328) := Lib.hid (by omega)
      have C7 : Hid ((flat ls (k + 1)).length = (flat ls k).length + min l.length 100) := Lib.hid (by rw [HF.out, List.length_append, C4.out])
      go_wp2_with (first | (go_at_call 10; refine (short_any Ak l.length ck 100 _ e1 e2 (by decide)).mono ?_; rintro e w2 ⟨rfl, rfl⟩) | (at_builtin; refine append_one rfl (.tmp 23) (.tmp 29) 24 25 (.slice none 0 0) 24 rfl Try.underlying24 Try.inf25 rfl w.heap.size _ k (shortRows AF CF ls k) rfl (HO1.out.alloc _) ⟨wr.heap.size, 0, none⟩ (.slice Ak (min l.length 100) ck) rfl HU.out rfl C1.out C2.out C3.out ?_; intro ad1 c1 w3 hown1 hle1 hm1 hc1 hg1; obtain ⟨hb3, ho3, hs3⟩ := step1 HB.out HO1.out HO2.out hg1; have HO1' := Lib.hid hown1; have HB3 := Lib.hid hb3; have HO3 := Lib.hid ho3; have HR3 := Lib.hid ((E4.out.below hb3).take 100); clear hown1 hg1 hb3 ho3) | (at_builtin; go_must (refine append_bytes rfl (.tmp 31) (.tmp 35) rfl w.heap.size _ (flat ls k).length (flat ls k) rfl HO3.out Ak (min l.length 100) ck (l.take 100) rfl E3.out C4.out HR3.out C5.out C6.out hs3 ?_; intro v4 w4 hown4 hg4; obtain ⟨hb4, ho4⟩ := step2 HB3.out HO1'.out HO3.out hg4; have HO4 := Lib.hid hown4; have HO5 := Lib.hid ho4; have HB4 := Lib.hid hb4; clear hown4 hg4 ho4 hb4)))
      go_roundw
      case rel => exact ⟨k + 1, by omega, by omega, by go_num, Lib.hid (by rw [HS.out]; exact HO5.out), Lib.hid (by rw [C7.out, HF.out]; exact HO4.out), HB4⟩
      case measure => simp [intOf]; omega
    · have hk' : k ≤ ls.length := by have := HN.out; omega
      obtain ⟨Al, cl, rfl, _, _, hrl⟩ := own_form HO1.out
      obtain ⟨Aa, ca, rfl, _, _, _, hra⟩ := own_bread HO2.out
      have K1 := Lib.hid (sum_calls (c := cl) (shorts_len ls k hk') (by omega) (lread_shorts HE.out HB.out hk' hrl) (sums_flat (shorts ls k) 0))
      have HT := Lib.hid (tail_calls (ca := ca) (cm := cm) (la := flat ls k) (lm := lm.take 100) (m := (flat ls k).length) (nm := min nm 100) rfl (by rw [List.length_take, HM.out, Nat.min_comm]) (by omega) (by omega) hra ((HR.out.below HB.out).take 100))
      clear hrl hra hk'
      have K1' : Hid (Calls Try.prog 11 #[.slice Al k cl] wr fun e w' => e = .returned (.int .u32 (sum 0 (flat ls k) : Nat)) ∧ wr = w') := K1
      clear K1
      generalize (flat ls k).length = m at *
      generalize sum (sum 0 (flat ls k)) (lm.take 100) = T at *
      generalize sum 0 (flat ls k) = S at *
      by_cases hlt : k < n
      all_goals
        go_wp2_with (first | (go_at_call 10; refine (short_any Am nm cm 100 _ hmc hcm (by decide)).mono ?_; rintro e w2 ⟨rfl, rfl⟩) | (go_at_call 11; (with_reducible refine K1'.out.mono ?_); rintro e w2 ⟨rfl, rfl⟩) | (go_at_call 12; (with_reducible refine HT.out.1.mono ?_); rintro e w2 ⟨rfl, rfl⟩) | (go_at_call 11; (with_reducible refine HT.out.2.1.mono ?_); rintro e w2 ⟨rfl, rfl⟩) | (go_at_call 13; (with_reducible refine HT.out.2.2.1.mono ?_); rintro e w2 ⟨rfl, rfl⟩) | (go_at_call 11; (with_reducible refine HT.out.2.2.2.mono ?_); rintro e w2 ⟨rfl, rfl⟩))
        go_ret
        exact ⟨rfl, (HB.out.alloc HB.out.size _).alloc (by have := HB.out.size; simp; omega) _⟩

end Go.Proofs.Ytnkbkkbpmjemiaa

/- What sha.Sum does: the hash of bytes. Conditions: the bytes are read; they are few. -/
import Derived.Test.YtnkbkkbpmjemiaaShaPad
import Derived.Test.YtnkbkkbpmjemiaaShaMix
namespace Go.Proofs.Ytnkbkkbpmjemiaa
open Go.RowKit Sha

/-- Bytes are appended to nothing, one behind them. -/
theorem mark_step {w2 w3 w4 : World} {v3 : Value} {o : Obj} {l : List UInt8} {n : Nat} {v4 : Value} {xs : List Value} (hg3 : w2.grownBy w3 none) (ho3 : w3.ownsRow w2.heap.size 5 1 v3 n xs) (hg4 : (w3.alloc o).grownBy w4 v3.ownBlock)
    (ho4 : w4.ownsRow w2.heap.size 5 1 v4 (n + 1) (l.map byteV ++ [.int .u8 128])) : w4.ownsRow w2.heap.size 5 1 v4 (n + 1) ((marked l 0).map byteV) ∧ Below w2.heap.size w2 w4 := by
  have hb3 : Below w2.heap.size w2 w3 := (Below.refl _ _).grown hg3 (Nat.le_refl _) (fun k hk => by cases hk)
  refine ⟨by rw [marked_zero, List.map_append]; exact ho4, (hb3.alloc hb3.size _).grown hg4 ?_ (own_lo ho3)⟩
  have := hb3.size
  simp
  omega

/-- One byte is appended. -/
theorem zero_step {w2 wr w4 : World} {v : Value} {o : Obj} {n : Nat} {v4 : Value} {l : List UInt8} {x : UInt8} {r : List UInt8} (hr : r = l ++ [x]) (hb : Below w2.heap.size w2 wr) (ho : wr.ownsRow w2.heap.size 5 1 v n (l.map byteV)) (hg4 : (wr.alloc o).grownBy w4 v.ownBlock)
    (ho4 : w4.ownsRow w2.heap.size 5 1 v4 (n + 1) (l.map byteV ++ [.int .u8 (x.toNat : Int)])) : w4.ownsRow w2.heap.size 5 1 v4 (n + 1) (r.map byteV) ∧ Below w2.heap.size w2 w4 := by
  refine ⟨by rw [hr, List.map_append]; exact ho4, (hb.alloc hb.size _).grown hg4 ?_ (own_lo ho)⟩
  have := hb.size
  simp
  omega
theorem own_at {w : World} {base n : Nat} {e : TypeId} {v : Value} {xs : List Value} (h : w.ownsRow base e 1 v n xs) (hn : 0 < n) : ∃ g cap, v = .slice (some ⟨g, 0, none⟩) n cap ∧ base ≤ g ∧ g < w.heap.size := by
  rcases h.2 with ⟨rfl, h0⟩ | ⟨g, cap, cur, rfl, hg, hh, _⟩
  · omega
  · exact ⟨g, cap, rfl, hg, heap_lt hh⟩
def lenOf : Value → Nat
  | .slice _ m _ => m
  | _ => 0

set_option maxRecDepth 100000 in
set_option maxHeartbeats 800000 in
theorem sum_any (A : Option Addr) (n c : Nat) (l : List UInt8) (w : World) (hn : l.length = n) (hs : n ≤ 1000) (hA : A = none → c = 0) (hr : BRead w A l) :
    Calls Try.prog 20 #[.slice A n c] w fun e w' => e = .returned (.agg (bblk (Sha.sum l))) ∧ Below w.heap.size w w' := by
  have HN := Lib.hid hn
  have HA := Lib.hid hA
  have HR := Lib.hid hr
  clear hn hr hA
  have C1 : Hid (0 + n ≤ maxLen) := Lib.hid (by unfold maxLen; omega)
  have C2 : Hid ((0 + n) * 1 ≤ 140737488355328) := Lib.hid (by omega)
  have C3 : Hid (n + 1 ≤ maxLen) := Lib.hid (by unfold maxLen; omega)
  have C4 : Hid ((n + 1) * 1 ≤ 140737488355328) := Lib.hid (by omega)
  go_enter Try.func20, Try.ntmps20
  go_wp2_with (first
    | (go_at_call 27; refine (start_any _).mono ?_; rintro e w1 ⟨rfl, hb1⟩; have HX1 : Hid (w1.heap[w.heap.size]? = some (.cells (bblk (List.replicate 32 0)) 40)) := Lib.hid ((hb1.block _ (by simp)).trans (alloc_at _ _)); have HB1 : Hid (Below w.heap.size w w1) := Lib.hid (((Below.refl _ _).alloc (Nat.le_refl _) _).trans (hb1.mono (by simp))); have HL1 := Lib.hid (heap_lt HX1.out); clear hb1)
    | (refine store_block rfl 51 (.tmp 3) (.tmp 10) rfl w1.heap.size 51 (blk (List.replicate 8 0)) (blk Sha.start.list) rfl rfl (alloc_at _ _) rfl (by kernel_rfl) (blk_one _) ?_; intro w2 h2 hg2 hs2; rw [alloc_size] at hs2; have HS2 := Lib.hid h2; have HZ2 := Lib.hid hs2; have HX2 := Lib.hid (heap_kept (alloc_under HX1.out _) hg2 (Nat.ne_of_lt HL1.out)); have HB2 := Lib.hid (below_grown (HB1.out.alloc (Nat.le_of_lt HL1.out) _) hg2 (by rw [alloc_size]; exact Nat.le_succ_of_le (Nat.le_of_lt HL1.out)) (Nat.le_of_lt HL1.out)); have HR2 := Lib.hid (HR.out.below HB2.out); clear h2 hg2 hs2)
    | (at_builtin; refine append_bytes rfl (.const (.slice none 0 0)) (.tmp 11) rfl w2.heap.size _ 0 [] rfl (World.ownsRow_nil _ _ _ _) A n c l rfl HA.out HN.out HR2.out C1.out C2.out (Nat.le_refl _) ?_; intro v3 w3 hown3 hg3; simp only [Nat.zero_add, List.nil_append] at hown3; have HO3 := Lib.hid hown3; have HG3 := Lib.hid hg3; have HA3 := Lib.hid (Nat.le_succ_of_le hg3.size); clear hown3 hg3)
    | (at_builtin; go_must (refine append_one rfl (.tmp 12) (.tmp 13) 25 5 (.int .u8 0) 1 rfl Try.underlying25 Try.inf5 rfl w2.heap.size _ n (l.map byteV) rfl (HO3.out.alloc _) ⟨w3.heap.size, 0, none⟩ (.int .u8 128) rfl (by rw [add_at, cell_of_row _ _ _ _ _ _ (alloc_at _ _)]; rfl) rfl C3.out C4.out (by rw [alloc_size]; exact HA3.out) ?_; intro ad4 c4 w4 hown4 hle4 hm4 hc4 hg4; obtain ⟨ho, hb⟩ := mark_step HG3.out HO3.out hg4 hown4; have HO4 := Lib.hid ho; have HB4 := Lib.hid hb; clear hown4 hg4 ho hb)))
  clear HB1 HX1 HO3 HG3 HA3 HR2 C1 C2 C3 C4 hle4 hm4 hc4 HA
  have HZ := Lib.hid (zeros_le n)
  go_loopw [4] (fun v wr => ∃ k, k ≤ zeros n ∧ ∃ a c', v = .slice (some a) (n + 1 + k) c' ∧ Hid (wr.ownsRow w2.heap.size 5 1 v (n + 1 + k) ((marked l k).map byteV)) ∧ Hid (Below w2.heap.size w2 wr)) (fun v _ => n + 64 - lenOf v)
  case atStart => exact ⟨0, Nat.zero_le _, ad4, c4, rfl, HO4, HB4⟩
  case round =>
    clear HO4 HB4
    obtain ⟨k, hk, a, c', rfl, HO, HB⟩ := hrel
    have hz := HZ.out
    by_cases hlt : k < zeros n
    · have hne : (((n + 1 + k : Nat) : Int) % 64 != 56) = true := by
        rw [bne_iff_ne]
        intro h
        have := (zeros_stop n k hk).1 (by omega)
        omega
      have C3 : Hid (n + 1 + k + 1 ≤ maxLen) := Lib.hid (by unfold maxLen; omega)
      have C4 : Hid ((n + 1 + k + 1) * 1 ≤ 140737488355328) := Lib.hid (by omega)
      have HA3 := Lib.hid (Nat.le_succ_of_le HB.out.size)
      go_wp2_with (at_builtin; go_must (refine append_one rfl (.tmp 19) (.tmp 20) 25 5 (.int .u8 0) 1 rfl Try.underlying25 Try.inf5 rfl w2.heap.size _ (n + 1 + k) ((marked l k).map byteV) rfl (HO.out.alloc _) ⟨wr.heap.size, 0, none⟩ (.int .u8 0) rfl (by rw [add_at, cell_of_row _ _ _ _ _ _ (alloc_at _ _)]; rfl) rfl C3.out C4.out (by rw [alloc_size]; exact HA3.out) ?_; intro ad5 c5 w5 hown5 hle5 hm5 hc5 hg5; obtain ⟨ho, hb⟩ := zero_step (marked_succ l k) HB.out HO.out hg5 hown5; have HO5 := Lib.hid ho; have HB5 := Lib.hid hb; clear hown5 hg5 ho hb))
      go_roundw
      case rel => exact ⟨k + 1, by omega, ad5, c5, rfl, HO5, HB5⟩
      case measure => simp [lenOf]; omega
    · obtain rfl : k = zeros n := by omega
      have hne : (((n : Int) + 1 + (zeros n : Nat)) % 64 != 56) = false := by
        have := (zeros_stop n (zeros n) hk).2 rfl
        rw [bne_eq_false_iff_eq]
        omega
      clear hlt hk
      go_wp2
      have HO1 : Hid (wr.ownsRow w2.heap.size 5 1 (Value.slice (some a) (n + 1 + zeros n) c') (n + 1 + zeros n) ((long l 0).map byteV)) := Lib.hid (by rw [long_zero, HN.out]; exact HO.out)
      clear HO
      have hNN : (n + 1 + zeros n + 8) % 64 = 0 ∧ n + 1 + zeros n ≤ 1064 := ⟨zeros_fit n, by omega⟩
      have hpl : (pad l).length = n + 1 + zeros n + 8 := by rw [← long_pad, long_length, HN.out]
      have HPL := Lib.hid hpl
      have HNN := Lib.hid hNN.2
      clear hNN hpl hz
      generalize n + 1 + zeros n = N at *
      go_loopw [4, 6] (fun v i wr => ∃ j : Nat, j ≤ 8 ∧ i = .int .i64 (7 - (j : Int)) ∧ ∃ a c', v = .slice (some a) (N + j) c' ∧ Hid (wr.ownsRow w2.heap.size 5 1 v (N + j) ((long l j).map byteV)) ∧ Hid (Below w2.heap.size w2 wr)) (fun _ i _ => (1 + intOf i).toNat)
      case atStart => exact ⟨0, Nat.zero_le _, rfl, a, c', rfl, HO1, HB⟩
      case round =>
        clear HO1 HB
        obtain ⟨j, hj, rfl, a, c', rfl, HO, HB⟩ := hrel
        by_cases hlt : j < 8
        · obtain ⟨q, hq⟩ : ∃ q : Nat, 7 - (j : Int) = (q : Int) := Int.eq_ofNat_of_zero_le (by omega)
          rw [hq]
          have HQ : Hid (7 - (j : Int) = (q : Int)) := Lib.hid hq
          have j0 : (0 : Int) ≤ (q : Int) := by omega
          have j1 : (q : Int) ≤ 7 := by omega
          have j2 : (0 : Int) ≤ 8 * (q : Int) := by omega
          have j3 : IntKind.i64.wrap (8 * (q : Int)) = 8 * (q : Int) := IntWalk.i64_in _ (by omega)
          have j4 : (8 * (q : Int)).toNat = 8 * q := by omega
          have j5 : IntKind.i64.wrap ((q : Int) - 1) = (q : Int) - 1 := IntWalk.i64_in _ (by omega)
          obtain ⟨b, hb⟩ : ∃ b, b = UInt8.ofNat (8 * l.length / 2 ^ (8 * (7 - j))) := ⟨_, rfl⟩
          have HL := Lib.hid (long_succ l j)
          rw [← hb] at HL
          have sv : (n : Int) * 8 / 2 ^ (8 * q) % 256 = (b.toNat : Int) := by
            rw [hb, HN.out, show 7 - j = q by omega, ← lenW, show ((n : Int) * 8) = ((8 * n : Nat) : Int) by omega]
            rfl
          clear hq hb
          have hN := HNN.out
          have C3 : Hid (N + j + 1 ≤ maxLen) := Lib.hid (by unfold maxLen; omega)
          have C4 : Hid ((N + j + 1) * 1 ≤ 140737488355328) := Lib.hid (by omega)
          have HA3 := Lib.hid (Nat.le_succ_of_le HB.out.size)
          clear hN
          go_wp2_with (at_builtin; go_must (refine append_one rfl (.tmp 30) (.tmp 36) 25 5 (.int .u8 0) 1 rfl Try.underlying25 Try.inf5 rfl w2.heap.size _ (N + j) ((long l j).map byteV) rfl (HO.out.alloc _) ⟨wr.heap.size, 0, none⟩ (.int .u8 (b.toNat : Int)) rfl (by rw [add_at, cell_of_row _ _ _ _ _ _ (alloc_at _ _)]; rfl) rfl C3.out C4.out (by rw [alloc_size]; exact HA3.out) ?_; intro ad5 c5 w5 hown5 hle5 hm5 hc5 hg5; obtain ⟨ho, hb⟩ := zero_step HL.out HB.out HO.out hg5 hown5; have HO5 := Lib.hid ho; have HB5 := Lib.hid hb; clear hown5 hg5 ho hb))
          go_roundw
          case rel => exact ⟨j + 1, by omega, by rw [show 7 - ((j + 1 : Nat) : Int) = 7 - (j : Int) - 1 by omega, HQ.out], ad5, c5, rfl, HO5, HB5⟩
          case measure => simp [intOf]; omega
        · obtain rfl : j = 8 := by omega
          clear hlt hj
          go_wp2
          rw [show (7 : Int) - ((8 : Nat) : Int) = (-1 : Int) from rfl]
          obtain ⟨g, cap, e, hgb, hgl⟩ := own_at HO.out (by omega)
          cases e
          have hrd := (own_bread HO.out)
          obtain ⟨A', c2, e, hcap, _, _, hrd⟩ := hrd
          cases e
          rw [long_pad] at hrd
          have HRD := Lib.hid hrd
          have HGB := Lib.hid hgb
          have HCP := Lib.hid hcap
          have HBL := Lib.hid (pad_length l)
          have HSZ := Lib.hid HB.out.size
          have HS6 := Lib.hid ((HB.out.block _ (by have := HZ2.out; omega)).trans HS2.out)
          clear hrd hgb hgl hcap HO
          generalize wr = w6 at *
          go_loopw [4] (fun v wx => ∃ k, k ≤ blocks l ∧ ∃ off c', v = .slice (some ⟨g, off, none⟩) (64 * (blocks l - k)) c' ∧ 64 * (blocks l - k) ≤ c' ∧ Hid (BRead wx (some ⟨g, off, none⟩) ((pad l).drop (64 * k))) ∧ Hid (wx.heap[w1.heap.size]? = some (.cells (blk (mixes Sha.start (pad l) k).list) 51)) ∧ Hid (w6.grownBy wx (some w1.heap.size))) (fun v _ => lenOf v)
          case atStart =>
            have e := HBL.out
            have e' := HPL.out
            exact ⟨0, Nat.zero_le _, 0, c', by rw [show 64 * (blocks l - 0) = N + 8 by omega], by have := HCP.out; omega, HRD, HS6, Lib.hid (World.grownBy.refl _ _)⟩
          case round =>
            clear HRD HS6
            obtain ⟨k, hk, off, c', rfl, hc', HR6, HS6, HG6⟩ := hrel
            by_cases hlt : k < blocks l
            · obtain ⟨M, hM⟩ : ∃ M, M = 64 * (blocks l - k) := ⟨_, rfl⟩
              rw [← hM] at hc' ⊢
              have HM := Lib.hid hM
              have m0 : (0 : Int) < (M : Int) := by omega
              have m1 : 64 ≤ M := by omega
              have m2 : 64 ≤ c' := by omega
              have m3 : (64 : Int) ≤ (M : Int) := by omega
              have m4 : (64 : Int) ≤ (c' : Int) := by omega
              have HPC := Lib.hid (piece_length l k hlt)
              have HR7 := Lib.hid (HR6.out.take 64)
              have HGN : Hid (g ≠ w1.heap.size) := Lib.hid (by have := HGB.out; have := HZ2.out; omega)
              clear hM
              have HMX := Lib.hid (mixes_succ Sha.start (pad l) k)
              by_cases hcap : c' = 64
              · subst hcap
                go_wp2_with (go_at_call 28; refine (mix_any w1.heap.size (mixes Sha.start (pad l) k) ⟨g, off, none⟩ _ (((pad l).drop (64 * k)).take 64) _ HPC.out HS6.out HR7.out).mono ?_; rintro e w7 ⟨rfl, hg7, hs7⟩; have HG7 := Lib.hid hg7; have HS7 := Lib.hid hs7; clear hg7 hs7)
                go_roundw
                case rel =>
                  have e := HM.out
                  have e2 := HBL.out
                  exact ⟨k + 1, by omega, off, 0, by rw [show 64 * (blocks l - (k + 1)) = 0 by omega], by omega, Lib.hid (by rw [List.drop_of_length_le (by omega)]; exact BRead.nil _ _), Lib.hid (by rw [HMX.out]; exact HS7.out), Lib.hid (grown_trans HG6.out HG7.out)⟩
                case measure => simp [lenOf]; omega
              · go_wp2_with (go_at_call 28; refine (mix_any w1.heap.size (mixes Sha.start (pad l) k) ⟨g, off, none⟩ _ (((pad l).drop (64 * k)).take 64) _ HPC.out HS6.out HR7.out).mono ?_; rintro e w7 ⟨rfl, hg7, hs7⟩; have HG7 := Lib.hid hg7; have HS7 := Lib.hid hs7; clear hg7 hs7)
                go_roundw
                case rel =>
                  have e := HM.out
                  exact ⟨k + 1, by omega, off + 64, c' - 64, by rw [show 64 * (blocks l - (k + 1)) = M - 64 by omega], by omega, Lib.hid (by
                    have h := (HR6.out.drop 64 g off rfl).grown HG7.out HGN.out
                    rw [List.drop_drop] at h
                    exact h), Lib.hid (by rw [HMX.out]; exact HS7.out), Lib.hid (grown_trans HG6.out HG7.out)⟩
                case measure => simp [lenOf]; omega
            · obtain rfl : k = blocks l := by omega
              rw [show 64 * (blocks l - blocks l) = 0 by omega]
              obtain ⟨s, hs⟩ : ∃ s, s = mixes Sha.start (pad l) (blocks l) := ⟨_, rfl⟩
              rw [← hs] at HS6
              have HSS := Lib.hid hs
              have HBF := Lib.hid (below_grown (HB2.out.trans (HB.out.mono HB2.out.size)) HG6.out (HB2.out.trans (HB.out.mono HB2.out.size)).size (Nat.le_of_lt HL1.out))
              have HXF := Lib.hid (heap_kept ((HB.out.block _ (heap_lt HX2.out)).trans HX2.out) HG6.out (Nat.ne_of_lt HL1.out))
              have HLF := Lib.hid (heap_lt HXF.out)
              clear hlt hk hs HB HG6 HR6 hc'
              go_wp2_with (refine wpList_load_row rfl 51 (.tmp 3) rfl w1.heap.size rfl 51 (blk s.list) (0, 0) _ (alloc_under HS6.out _) Try.underlying51 rfl (by kernel_rfl) ?_)
              have H0 : Hid ((wr.alloc (.cells (bblk (List.replicate 32 0)) 40)).heap[wr.heap.size]? = some (.cells (bblk (outs s.list 0)) 40)) := Lib.hid (alloc_at _ _)
              have H1 := Lib.hid (HBF.out.alloc HBF.out.size (.cells (bblk (List.replicate 32 0)) 40))
              have H2 := Lib.hid (alloc_under HXF.out (.cells (bblk (List.replicate 32 0)) 40))
              clear HXF HS6 HBF
              generalize hg7 : wr.heap.size = g7 at *
              go_loopw [47] (fun i wx => ∃ k : Nat, k ≤ 8 ∧ i = .int .i64 k ∧ Hid (wx.heap[g7]? = some (.cells (bblk (outs s.list k)) 40)) ∧ Hid (Below w.heap.size w wx) ∧ Hid (wx.heap[w.heap.size]? = some (.cells (bblk (List.replicate 32 0)) 40))) (fun i _ => 8 - (intOf i).toNat)
              case atStart => exact ⟨0, by omega, rfl, H0, H1, H2⟩
              case round =>
                clear H0 H1 H2
                obtain ⟨k, hk, rfl, H0, H1, H2⟩ := hrel
                by_cases hlt : k < 8
                · have hix := index_st s k hlt
                  have HO := Lib.hid (outs_set s.list k rfl hlt)
                  generalize s.list.getD k 0 = x at hix HO
                  unfold wordV at hix
                  have j0 : (0 : Int) ≤ (k : Int) := by omega
                  have j1 : (k : Int) < 8 := by omega
                  have v0 := byteW24 x
                  have v1 := byteW16 x
                  have v2 := byteW8 x
                  have v3 := byteW0 x
                  generalize (x >>> 24).toUInt8 = y0 at v0 HO
                  generalize (x >>> 16).toUInt8 = y1 at v1 HO
                  generalize (x >>> 8).toUInt8 = y2 at v2 HO
                  generalize x.toUInt8 = y3 at v3 HO
                  have w0 : IntKind.i64.wrap (4 * (k : Int)) = 4 * (k : Int) := IntWalk.i64_in _ (by omega)
                  have w1 : IntKind.i64.wrap (4 * (k : Int) + 1) = 4 * (k : Int) + 1 := IntWalk.i64_in _ (by omega)
                  have w2 : IntKind.i64.wrap (4 * (k : Int) + 2) = 4 * (k : Int) + 2 := IntWalk.i64_in _ (by omega)
                  have w3 : IntKind.i64.wrap (4 * (k : Int) + 3) = 4 * (k : Int) + 3 := IntWalk.i64_in _ (by omega)
                  obtain ⟨d01, d02⟩ : (0 : Int) ≤ 4 * (k : Int) ∧ 4 * (k : Int) < 32 := by omega
                  obtain ⟨d11, d12⟩ : (0 : Int) ≤ 4 * (k : Int) + 1 ∧ 4 * (k : Int) + 1 < 32 := by omega
                  obtain ⟨d21, d22⟩ : (0 : Int) ≤ 4 * (k : Int) + 2 ∧ 4 * (k : Int) + 2 < 32 := by omega
                  obtain ⟨d31, d32⟩ : (0 : Int) ≤ 4 * (k : Int) + 3 ∧ 4 * (k : Int) + 3 < 32 := by omega
                  have q0 : (4 * (k : Int)).toNat = 4 * k := by omega
                  have q1 : (4 * (k : Int) + 1).toNat = 4 * k + 1 := by omega
                  have q2 : (4 * (k : Int) + 2).toNat = 4 * k + 2 := by omega
                  have q3 : (4 * (k : Int) + 3).toNat = 4 * k + 3 := by omega
                  have HLen := Lib.hid (outs_length s.list k rfl (Nat.le_of_lt hlt))
                  go_wp2_with (first
                    | (refine store_byte rfl (.tmp 73) (.tmp 64) rfl g7 (4 * k) 40 _ y0 rfl ?hy H0.out (by (try simp only [List.length_set]); have := HLen.out; omega) ?_; (case hy => first | exact (congrArg (Value.int .u8) v0) | exact rfl); intro p0 h0 hg0; have S0 := Lib.hid h0; have G0 := Lib.hid hg0; clear h0 hg0)
                    | (refine store_byte rfl (.tmp 74) (.tmp 67) rfl g7 (4 * k + 1) 40 _ y1 rfl ?hy S0.out (by (try simp only [List.length_set]); have := HLen.out; omega) ?_; (case hy => first | exact (congrArg (Value.int .u8) v1) | exact rfl); intro p1 h1 hg1; have S1 := Lib.hid h1; have G1 := Lib.hid hg1; clear h1 hg1)
                    | (refine store_byte rfl (.tmp 75) (.tmp 70) rfl g7 (4 * k + 2) 40 _ y2 rfl ?hy S1.out (by (try simp only [List.length_set]); have := HLen.out; omega) ?_; (case hy => first | exact (congrArg (Value.int .u8) v2) | exact rfl); intro p2 h2 hg2; have S2 := Lib.hid h2; have G2 := Lib.hid hg2; clear h2 hg2)
                    | (refine store_byte rfl (.tmp 76) (.tmp 72) rfl g7 (4 * k + 3) 40 _ y3 rfl ?hy S2.out (by (try simp only [List.length_set]); have := HLen.out; omega) ?_; (case hy => first | exact (congrArg (Value.int .u8) v3) | exact rfl); intro p3 h3 hg3; have S3 := Lib.hid h3; have G3 := Lib.hid hg3; clear h3 hg3))
                  go_roundw
                  case rel =>
                    have hl := HLF.out
                    have hg := grown_trans (grown_trans (grown_trans G0.out G1.out) G2.out) G3.out
                    exact ⟨k + 1, by omega, by go_num, Lib.hid (by rw [← HO.out]; exact S3.out), Lib.hid (below_grown H1.out hg H1.out.size (Nat.le_of_lt hl)), Lib.hid (heap_kept H2.out hg (Nat.ne_of_lt hl))⟩
                  case measure => simp [intOf]; omega
                · obtain rfl : k = 8 := by omega
                  have HE : Hid (wr.heap[g7]? = some (.cells (bblk (Sha.sum l)) 40)) := Lib.hid (by have h := H0.out; rw [HSS.out, ← sum_outs] at h; exact h)
                  have HL := Lib.hid (sum_length l)
                  clear H0 hlt hk
                  obtain ⟨R, hR⟩ : ∃ R, R = Sha.sum l := ⟨_, rfl⟩
                  rw [← hR] at HE HL
                  go_wp2_with (first
                    | (refine wpList_load_row rfl 40 (.tmp 7) rfl g7 rfl 40 (bblk R) (0, 0) _ HE.out Try.underlying40 rfl (by rw [bblk_size, HL.out]; kernel_rfl) ?_)
                    | (refine store_block rfl 40 (.tmp 2) (.tmp 78) rfl w.heap.size 40 (bblk (List.replicate 32 0)) (bblk R) rfl rfl H2.out (by rw [bblk_size, HL.out]; rfl) (by rw [bblk_size, HL.out]; kernel_rfl) (bblk_one _) ?_; intro w9 h9 hg9 _))
                  exact bodyPost_ret (v := .agg (bblk R)) (results_cell_row Try.results20 _ _ w.heap.size 40 (bblk R) (0, 0) _ rfl h9 Try.underlying40 rfl (by rw [bblk_size, HL.out]; kernel_rfl)) rfl
                    ⟨by rw [hR], below_grown H1.out hg9 H1.out.size (Nat.le_refl _)⟩

end Go.Proofs.Ytnkbkkbpmjemiaa

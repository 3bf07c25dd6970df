/- What crc.More, crc.Sum, the reference's More and Short do: the sum of bytes that memory holds; a slice's beginning. Conditions: the bytes read as a list, its length is at most the largest int. -/
import Derived.Test.YtnkbkkbpmjemiaaOwn
import Derived.Test.YtnkbkkbpmjemiaaCrcPure
import Derived.WalkKit
import Derived.WalkSpells
import Derived.WalkLawsBesides
import Derived.Lib.Hide
import Derived.Lib.SlBytesConst
namespace Go.Proofs.Ytnkbkkbpmjemiaa
open Go.RowKit Crc

theorem max_u32 : IntKind.u32.max = 4294967295 := by decide +kernel
theorem not_max {x : Nat} (h : x < 4294967296) : bits .xor .u32 IntKind.u32.max (x : Int) = ((4294967295 ^^^ x : Nat) : Int) := by rw [max_u32]; exact not_word h
theorem u8_mod (c : UInt8) : (c.toNat : Int) % 4294967296 = (c.toNat : Int) := Int.emod_eq_of_lt (Int.natCast_nonneg _) (by have := u8_lt c; omega)
theorem xor_mod {x : Nat} (h : x < 4294967296) (c : UInt8) : bits .xor .u32 (x : Int) ((c.toNat : Int) % 4294967296) = ((x ^^^ c.toNat : Nat) : Int) := by rw [u8_mod]; exact xor_word h c
theorem ret_u32 {a b : Int} (h : a = b) : Ending.returned (.int .u32 a) = .returned (.int .u32 b) := by rw [h]
theorem val_u32 {a b : Int} (h : a = b) : Value.int .u32 a = .int .u32 b := by rw [h]

set_option maxHeartbeats 400000 in
theorem more_any (s : Nat) (hs : s < 4294967296) (A : Option Addr) (n c : Nat) (l : List UInt8) (w : World) (hn : l.length = n) (hl : n ≤ 9223372036854775807) (hr : BRead w A l) :
    Calls Try.prog 13 #[.int .u32 (s : Int), .slice A n c] w fun e w' => e = .returned (.int .u32 (sum s l : Nat)) ∧ w = w' := by
  subst hn
  have HR := Lib.hid hr
  have HS := Lib.hid hs
  clear hr hs
  go_enter Try.func13, Try.ntmps13
  go_wp2
  go_loop [5, 12] (fun x i => ∃ k : Nat, k ≤ l.length ∧ i = .int .i64 k ∧ x = .int .u32 (raw (4294967295 ^^^ s) (l.take k) : Nat)) (fun _ i => l.length - (intOf i).toNat)
  case atStart => exact ⟨0, Nat.zero_le _, rfl, val_u32 (not_max HS.out)⟩
  case round =>
    obtain ⟨k, hk, rfl, rfl⟩ := hrel
    by_cases hlt : k < l.length
    · obtain ⟨ad, rfl, hc⟩ := HR.out k hlt
      have HX := Lib.hid (raw_lt (l.take k) (xor_lt (x := 4294967295) (by decide) HS.out))
      have HN := Lib.hid (raw_snoc (4294967295 ^^^ s) (l.take k) l[k])
      have HT := Lib.hid (List.take_succ_eq_append_getElem hlt)
      generalize raw (4294967295 ^^^ s) (l.take k) = x at HX HN ⊢
      go_wp2
      go_loop [5, 20] (fun y j => ∃ m : Nat, m ≤ 8 ∧ j = .int .i64 m ∧ y = .int .u32 (bitsN m (x ^^^ l[k].toNat) : Nat)) (fun _ j => 8 - (intOf j).toNat)
      case atStart => exact ⟨0, Nat.zero_le _, rfl, val_u32 (xor_mod HX.out _)⟩
      case round =>
        obtain ⟨m, hm, rfl, rfl⟩ := hrel
        have HB := Lib.hid (bit_word (bitsN_lt m (xor_lt HX.out (u8_lt32 l[k]))))
        by_cases hm8 : m < 8
        · go_wp2
          go_round
          case rel => exact ⟨m + 1, by omega, by go_num, val_u32 HB.out⟩
          case measure => simp [intOf]; omega
        · obtain rfl : m = 8 := by omega
          go_wp2
          go_round
          case rel => exact ⟨k + 1, by omega, by go_num, val_u32 (by rw [HT.out, HN.out]; rfl)⟩
          case measure => simp [intOf]; omega
    · obtain rfl : k = l.length := by omega
      have HX := Lib.hid (raw_lt l (xor_lt (x := 4294967295) (by decide) HS.out))
      go_wp2
      go_ret
      exact ⟨ret_u32 (not_max HX.out), rfl⟩

set_option maxHeartbeats 400000 in
theorem refmore_any (s : Nat) (hs : s < 4294967296) (A : Option Addr) (n c : Nat) (l : List UInt8) (w : World) (hn : l.length = n) (hl : n ≤ 9223372036854775807) (hr : BRead w A l) :
    Calls Try.prog 12 #[.int .u32 (s : Int), .slice A n c] w fun e w' => e = .returned (.int .u32 (sum s l : Nat)) ∧ w = w' := by
  subst hn
  have HR := Lib.hid hr
  have HS := Lib.hid hs
  clear hr hs
  go_enter Try.func12, Try.ntmps12
  go_wp2
  go_loop [5, 6, 7] (fun x i _ => ∃ k : Nat, k ≤ l.length ∧ i = .int .i64 k ∧ x = .int .u32 (raw (4294967295 ^^^ s) (l.take k) : Nat)) (fun _ i _ => l.length - (intOf i).toNat)
  case atStart => exact ⟨0, Nat.zero_le _, rfl, val_u32 (not_max HS.out)⟩
  case round =>
    obtain ⟨k, hk, rfl, rfl⟩ := hrel
    by_cases hlt : k < l.length
    · obtain ⟨ad, rfl, hc⟩ := HR.out k hlt
      have HX := Lib.hid (raw_lt (l.take k) (xor_lt (x := 4294967295) (by decide) HS.out))
      have HN := Lib.hid (raw_snoc (4294967295 ^^^ s) (l.take k) l[k])
      have HT := Lib.hid (List.take_succ_eq_append_getElem hlt)
      generalize raw (4294967295 ^^^ s) (l.take k) = x at HX HN ⊢
      go_wp2
      go_loop [5, 7] (fun y j => ∃ m : Nat, m ≤ 8 ∧ j = .int .i64 m ∧ y = .int .u32 (bitsN m (x ^^^ l[k].toNat) : Nat)) (fun _ j => 8 - (intOf j).toNat)
      case atStart => exact ⟨0, Nat.zero_le _, rfl, val_u32 (xor_mod HX.out _)⟩
      case round =>
        obtain ⟨m, hm, rfl, rfl⟩ := hrel
        by_cases hm8 : m < 8
        · have HY := Lib.hid (bitsN_lt m (xor_lt HX.out (u8_lt32 l[k])))
          have HE : Hid (bitsN (m + 1) (x ^^^ l[k].toNat) = bit (bitsN m (x ^^^ l[k].toNat))) := rfl
          generalize bitsN m (x ^^^ l[k].toNat) = y at HY HE ⊢
          by_cases h1 : y % 2 = 1
          · have hb : (((y : Int) % 2) == 1) = true := by rw [beq_iff_eq]; omega
            have H1 := Lib.hid h1
            clear h1
            go_wp2
            go_round
            case rel => exact ⟨m + 1, by omega, by go_num, val_u32 (by rw [HE.out]; exact ref_odd HY.out H1.out)⟩
            case measure => simp [intOf]; omega
          · have hb : (((y : Int) % 2) == 1) = false := by rw [beq_eq_false_iff_ne]; omega
            have H1 := Lib.hid h1
            clear h1
            go_wp2
            go_round
            case rel => exact ⟨m + 1, by omega, by go_num, val_u32 (by rw [HE.out]; exact ref_even H1.out)⟩
            case measure => simp [intOf]; omega
        · obtain rfl : m = 8 := by omega
          go_wp2
          go_round
          case rel => exact ⟨k + 1, by omega, by go_num, val_u32 (by rw [HT.out, HN.out]; rfl)⟩
          case measure => simp [intOf]; omega
    · obtain rfl : k = l.length := by omega
      have HX := Lib.hid (raw_lt l (xor_lt (x := 4294967295) (by decide) HS.out))
      go_wp2
      go_ret
      exact ⟨ret_u32 (not_max HX.out), rfl⟩

/-- Rows of bytes that are read at A. -/
def LRead (w : World) (A : Option Addr) (ls : List (List UInt8)) : Prop :=
  ∀ i : Nat, i < ls.length → ∃ ad Ai ci, A = some ad ∧ w.cell? (ad.add i) = some (.slice Ai (ls.getD i []).length ci) ∧ (ls.getD i []).length ≤ 9223372036854775807 ∧ BRead w Ai (ls.getD i [])

set_option maxHeartbeats 400000 in
theorem sum_any (A : Option Addr) (n c : Nat) (ls : List (List UInt8)) (w : World) (hn : ls.length = n) (hl : n ≤ 9223372036854775807) (hr : LRead w A ls) :
    Calls Try.prog 11 #[.slice A n c] w fun e w' => e = .returned (.int .u32 (sums 0 ls : Nat)) ∧ w = w' := by
  subst hn
  have HR := Lib.hid hr
  clear hr
  go_enter Try.func11, Try.ntmps11
  go_wp2
  go_loop [3, 8] (fun x i => ∃ k : Nat, k ≤ ls.length ∧ i = .int .i64 k ∧ x = .int .u32 (sums 0 (ls.take k) : Nat)) (fun _ i => ls.length - (intOf i).toNat)
  case atStart => exact ⟨0, Nat.zero_le _, rfl, rfl⟩
  case round =>
    obtain ⟨k, hk, rfl, rfl⟩ := hrel
    by_cases hlt : k < ls.length
    · obtain ⟨ad, Ai, ci, rfl, hc, hm, hb⟩ := HR.out k hlt
      rw [getD_eq ls k [] hlt] at hc hm hb
      have HB := Lib.hid hb
      have HX := Lib.hid (sums_lt (s := 0) (ls.take k) (by decide))
      have HN := Lib.hid (sums_snoc 0 (ls.take k) ls[k])
      have HT := Lib.hid (List.take_succ_eq_append_getElem hlt)
      clear hb
      generalize sums 0 (ls.take k) = x at HX HN ⊢
      generalize ls[k] = l at *
      go_wp2_with (go_at_call 13; refine (more_any x HX.out Ai _ ci l _ rfl hm HB.out).mono ?_; rintro e w' ⟨rfl, rfl⟩)
      go_round
      case rel => exact ⟨k + 1, by omega, by go_num, val_u32 (by rw [HT.out, HN.out])⟩
      case measure => simp [intOf]; omega
    · obtain rfl : k = ls.length := by omega
      go_wp2
      go_ret
      exact ⟨ret_u32 rfl, rfl⟩

set_option maxHeartbeats 400000 in
theorem short_any (A : Option Addr) (n c : Nat) (m : Nat) (w : World) (hn : n ≤ c) (_hc : c ≤ 9223372036854775807) (hm : m ≤ 9223372036854775807) :
    Calls Try.prog 10 #[.slice A n c, .int .i64 m] w fun e w' => e = .returned (.slice A (min n m) c) ∧ w = w' := by
  go_enter Try.func10, Try.ntmps10
  by_cases h : m < n
  · have e : min n m = m := by omega
    rw [e]
    go_wp2
    go_ret
    exact ⟨rfl, rfl⟩
  · have e : min n m = n := by omega
    rw [e]
    go_wp2
    go_ret
    exact ⟨rfl, rfl⟩

theorem lread_nil (w : World) (A : Option Addr) : LRead w A [] := fun _ hi => absurd hi (Nat.not_lt_zero _)
theorem lread_one {w : World} {ad : Addr} {l : List UInt8} {Ai : Option Addr} {ci : Nat} (h : w.cell? ad = some (.slice Ai l.length ci)) (hm : l.length ≤ 9223372036854775807) (hb : BRead w Ai l) (hp : ad.add 0 = ad) : LRead w (some ad) [l] := by
  intro i hi
  obtain rfl : i = 0 := by simp at hi; omega
  exact ⟨ad, Ai, ci, rfl, by rw [hp]; exact h, hm, hb⟩

def nineB : List UInt8 := [49, 50, 51, 52, 53, 54, 55, 56, 57]
theorem nine_sums : sums 0 [nineB] = 3421780262 := by decide +kernel
set_option maxHeartbeats 400000 in
theorem crcbegun_any (w : World) : Calls Try.prog 9 #[] w fun e w' => e = .returned (.bool true) ∧ Below w.heap.size w w' := by
  have kc := fun (w : World) (C : Array Value) (n c : Nat) => Lib.run_convert_bytes_const (P := Try.prog) w 25 5 C n c Try.underlying25 Try.underlying5
  go_enter Try.func9, Try.ntmps9
  go_wp2_with fail
  refine (sum_any _ _ _ [nineB] _ rfl (by decide) ?_).mono ?_
  · refine lread_one (Ai := some ⟨w.heap.size, 0, none⟩) (ci := 9) ?_ (by decide) ?_ rfl
    · rw [cell_of_row _ _ _ _ _ _ (by rw [← alloc_size w]; exact alloc_at _ _)]
      rfl
    · exact bread_block (alloc_under (alloc_at _ _) _) 0 nineB rfl
  · rintro e w' ⟨rfl, rfl⟩
    rw [nine_sums]
    go_wp2_with (go_at_call 11; refine (sum_any _ _ _ [] _ rfl (by decide) (lread_nil _ _)).mono ?_; rintro e w' ⟨rfl, rfl⟩)
    go_ret
    exact ⟨rfl, ((Below.refl _ _).alloc (Nat.le_refl _) _).alloc (by simp) _⟩

end Go.Proofs.Ytnkbkkbpmjemiaa

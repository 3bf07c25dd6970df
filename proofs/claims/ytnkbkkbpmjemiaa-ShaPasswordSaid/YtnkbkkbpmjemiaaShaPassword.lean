/- The law ShaPassword answers true: a name and a word are hashed with a colon between. Conditions: the arguments read as strings. -/
import Derived.Test.YtnkbkkbpmjemiaaShaCalls
namespace Go.Proofs.Ytnkbkkbpmjemiaa
open Go.RowKit Sha

/-- What the calls make of a name and a word that are not too long. -/
def PF (vx vy : Value) : Prop := ∃ x1 z : List UInt8, z.length ≤ 191 ∧
  (∀ w, Calls Try.prog 24 #[vx, vy] w fun e w' => e = .returned (strOf (Sha.hex z)) ∧ Below w.heap.size w w') ∧
  (∀ w, Calls Try.prog 25 #[vx, vy] w fun e w' => e = .returned (strOf (Sha.hex z)) ∧ Below w.heap.size w w') ∧
  (∀ w, (binOp .add 9 vx (.string ⟨#[58]⟩)).run Try.prog w = .ok (strOf x1) w) ∧ (∀ w, (binOp .add 9 (strOf x1) vy).run Try.prog w = .ok (strOf z) w)
theorem pass_facts (s t : ByteArray) (hs : s.size ≤ 60) (ht : t.size ≤ 130) : PF (.string s) (.string t) := by
  have h1 : s.data.toList.length ≤ 60 := by rw [Array.length_toList]; exact hs
  have h2 : t.data.toList.length ≤ 130 := by rw [Array.length_toList]; exact ht
  obtain ⟨h3, h4⟩ := pass_length h1 h2
  exact ⟨s.data.toList ++ [58], (s.data.toList ++ [58]) ++ t.data.toList, h4, fun w => pass_any _ _ w h1 h2, fun w => passref_any _ _ w h1 h2, fun w => run_join s.data.toList [58] w (by simp; omega), fun w => run_join (s.data.toList ++ [58]) t.data.toList w (by omega)⟩

set_option maxHeartbeats 1000000 in
theorem password_walk (s t : ByteArray) (w : World) (hs : s.size ≤ 9223372036854775807) (ht : t.size ≤ 9223372036854775807) :
    Calls Try.prog 8 #[.string s, .string t] w fun e w' => e = .returned (.bool true) ∧ Below w.heap.size w w' := by
  have F : ∃ s0 t0 : ByteArray, Hid (PF (.string s0) (.string t0)) ∧ Hid (60 < s.size → s0 = s.extract 0 60) ∧ Hid (¬ 60 < s.size → s0 = s) ∧ Hid (130 < t.size → t0 = t.extract 0 130) ∧ Hid (¬ 130 < t.size → t0 = t) := by
    by_cases h1 : 60 < s.size
    · by_cases h2 : 130 < t.size
      · exact ⟨s.extract 0 60, t.extract 0 130, Lib.hid (pass_facts _ _ (by rw [ByteArray.size_extract]; omega) (by rw [ByteArray.size_extract]; omega)), Lib.hid fun _ => rfl, Lib.hid fun h => absurd h1 h, Lib.hid fun _ => rfl, Lib.hid fun h => absurd h2 h⟩
      · exact ⟨s.extract 0 60, t, Lib.hid (pass_facts _ _ (by rw [ByteArray.size_extract]; omega) (by omega)), Lib.hid fun _ => rfl, Lib.hid fun h => absurd h1 h, Lib.hid fun h => absurd h h2, Lib.hid fun _ => rfl⟩
    · by_cases h2 : 130 < t.size
      · exact ⟨s, t.extract 0 130, Lib.hid (pass_facts _ _ (by omega) (by rw [ByteArray.size_extract]; omega)), Lib.hid fun h => absurd h h1, Lib.hid fun _ => rfl, Lib.hid fun _ => rfl, Lib.hid fun h => absurd h2 h⟩
      · exact ⟨s, t, Lib.hid (pass_facts _ _ (by omega) (by omega)), Lib.hid fun h => absurd h h1, Lib.hid fun _ => rfl, Lib.hid fun h => absurd h h2, Lib.hid fun _ => rfl⟩
  obtain ⟨s0, t0, F, S1, S2, T1, T2⟩ := F
  have kg := guard_str
  have ke := run_same
  by_cases h1 : 60 < s.size
  all_goals by_cases h2 : 130 < t.size
  all_goals
    go_enter Try.func8, Try.ntmps8
    go_wp2_with (first | (go_at_call 19; refine (begun_any _).mono ?_; rintro e w1 ⟨rfl, hb1⟩; have HB1 := Lib.hid hb1; clear hb1) | (go_at_call 24; fail))
    first | rw [← S1.out h1] | rw [← S2.out h1]
    first | rw [← T1.out h2] | rw [← T2.out h2]
    clear S1 S2 T1 T2
    obtain ⟨x1, z, hz, f24, f25, k1, k2⟩ := F.out
    clear F
    have k3 := run_bytes_of z
    have F24 := Lib.hid f24
    have F25 := Lib.hid f25
    have HZ := Lib.hid hz
    clear f24 f25 hz
    generalize Value.string s0 = vx at *
    generalize Value.string t0 = vy at *
    go_wp2_with (first
      | (go_at_call 24; refine (F24.out _).mono ?_; rintro e w2 ⟨rfl, hb2⟩; have HB1 := Lib.hid (HB1.out.trans (hb2.mono HB1.out.size)); clear hb2)
      | (go_at_call 25; refine (F25.out _).mono ?_; rintro e w3 ⟨rfl, hb3⟩; have HB1 := Lib.hid (HB1.out.trans (hb3.mono HB1.out.size)); clear hb3)
      | (go_at_call 22; refine (hex_any (some ⟨_, 0, none⟩) z.length _ z _ rfl (Nat.le_trans HZ.out (by decide)) (by intro h; cases h) (bytes_read _ z)).mono ?_; rintro e w4 ⟨rfl, hb4⟩; have HB4 := Lib.hid hb4; clear hb4))
    go_ret
    exact ⟨rfl, HB1.out.trans (((bytes_below _ z).trans (HB4.out.mono (bytes_below _ z).size)).mono HB1.out.size)⟩

end Go.Proofs.Ytnkbkkbpmjemiaa

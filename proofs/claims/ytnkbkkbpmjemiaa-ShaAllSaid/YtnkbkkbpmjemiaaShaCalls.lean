/- The small functions above the hashes: the law's hash, the passwords, the hash of abc. Conditions: the bytes are read; they are few. -/
import Derived.Test.YtnkbkkbpmjemiaaShaHexA
import Derived.Test.YtnkbkkbpmjemiaaShaHexB
namespace Go.Proofs.Ytnkbkkbpmjemiaa
open Go.RowKit Sha

/-- A slice of the hash's bytes is handed back. -/
def SumAt (l : List UInt8) (w : World) (e : Ending) (w' : World) : Prop :=
  ∃ g, e = .returned (.slice (some ⟨g, 0, none⟩) 32 32) ∧ BRead w' (some ⟨g, 0, none⟩) (Sha.sum l) ∧ Below w.heap.size w w'

set_option maxHeartbeats 400000 in
theorem hash_any (A : Option Addr) (n c : Nat) (l : List UInt8) (w : World) (hn : l.length = n) (hs : n ≤ 1000) (hA : A = none → c = 0) (hr : BRead w A l) :
    Calls Try.prog 21 #[.slice A n c] w (SumAt l w) := by
  have HN := Lib.hid hn
  have HA := Lib.hid hA
  have HR := Lib.hid hr
  clear hn hr hA
  have HL := Lib.hid (sum_length l)
  obtain ⟨R, hR⟩ : ∃ R, R = Sha.sum l := ⟨_, rfl⟩
  have HRR := Lib.hid hR
  rw [← hR] at HL
  clear hR
  have HLB : Hid ((bblk R).size = 32) := Lib.hid (by rw [bblk_size, HL.out])
  go_enter Try.func21, Try.ntmps21
  go_wp2_with (first
    | (go_at_call 29; refine (ref_any A n c l _ HN.out hs HA.out HR.out).mono ?_; rw [← HRR.out]; rintro e w1 ⟨rfl, hb1⟩; have HB1 := Lib.hid hb1; clear hb1)
    | (refine store_block rfl 40 (.tmp 3) (.tmp 5) rfl w1.heap.size 40 (bblk (List.replicate 32 0)) (bblk R) rfl rfl (alloc_at _ _) (by rw [HLB.out]; rfl) (by rw [HLB.out]; kernel_rfl) (bblk_one _) ?_; intro w2 h2 hg2 hs2; have HS2 := Lib.hid h2; have HB2 := Lib.hid (below_grown (HB1.out.alloc HB1.out.size _) hg2 (by rw [alloc_size]; exact Nat.le_succ_of_le HB1.out.size) HB1.out.size); clear h2 hg2 hs2))
  go_ret
  exact ⟨_, rfl, by rw [← HRR.out]; exact bread_block HS2.out 0 R (by simp only [bblk, List.toList_toArray, List.drop_zero]; exact List.take_of_length_le (by rw [List.length_map]; exact Nat.le_refl _)), HB2.out⟩

theorem pass_length {x y : List UInt8} (hx : x.length ≤ 60) (hy : y.length ≤ 130) : (x ++ [58]).length ≤ 61 ∧ ((x ++ [58]) ++ y).length ≤ 191 := by
  simp; omega
/-- Bytes made of a string. -/
theorem run_bytes_of (z : List UInt8) (w : World) : (convert 9 25 (strOf z)).run Try.prog w = .ok (.slice (some ⟨w.heap.size, 0, none⟩) z.length (grownCap w z.length 0 5)) (Lib.bytesWorld w 5 ⟨z.toArray⟩) :=
  Lib.run_convert_string_bytes w 9 25 5 ⟨z.toArray⟩ Try.underlying9 Try.underlying25 Try.underlying5
theorem bytes_below (w : World) (z : List UInt8) : Below w.heap.size w (Lib.bytesWorld w 5 ⟨z.toArray⟩) := by
  refine ⟨rfl, rfl, rfl, by rw [Lib.bytesWorld_size]; exact Nat.le_succ _, fun k hk => Lib.bytesWorld_at_old w 5 _ k hk⟩
theorem bytes_read (w : World) (z : List UInt8) : BRead (Lib.bytesWorld w 5 ⟨z.toArray⟩) (some ⟨w.heap.size, 0, none⟩) z := by
  intro i hi
  refine ⟨_, rfl, ?_⟩
  rw [add_at, Nat.zero_add]
  exact Lib.bytesWorld_cell w 5 ⟨z.toArray⟩ i (by simpa [ByteArray.size] using hi)

set_option maxHeartbeats 400000 in
theorem pass_any (x y : List UInt8) (w : World) (hx : x.length ≤ 60) (hy : y.length ≤ 130) :
    Calls Try.prog 24 #[strOf x, strOf y] w fun e w' => e = .returned (strOf (Sha.hex ((x ++ [58]) ++ y))) ∧ Below w.heap.size w w' := by
  obtain ⟨h1, h2⟩ := pass_length hx hy
  have k1 : ∀ w, (binOp .add 9 (strOf x) (.string ⟨#[58]⟩)).run Try.prog w = .ok (strOf (x ++ [58])) w := fun w => run_join x [58] w (by simp; omega)
  have k2 : ∀ w, (binOp .add 9 (strOf (x ++ [58])) (strOf y)).run Try.prog w = .ok (strOf ((x ++ [58]) ++ y)) w := fun w => run_join (x ++ [58]) y w (by omega)
  generalize (x ++ [58]) = x1 at *
  generalize (x1 ++ y) = z at *
  have k3 := run_bytes_of z
  have H2 := Lib.hid h2
  clear h1 h2 hx hy
  go_enter Try.func24, Try.ntmps24
  go_wp2_with (go_at_call 22; refine (hex_any (some ⟨w.heap.size, 0, none⟩) z.length _ z _ rfl (Nat.le_trans H2.out (by decide)) (by intro h; cases h) (bytes_read w z)).mono ?_; rintro e w1 ⟨rfl, hb1⟩; have HB1 := Lib.hid hb1; clear hb1)
  go_ret
  exact ⟨rfl, (bytes_below w z).trans (HB1.out.mono (bytes_below w z).size)⟩

set_option maxHeartbeats 400000 in
theorem passref_any (x y : List UInt8) (w : World) (hx : x.length ≤ 60) (hy : y.length ≤ 130) :
    Calls Try.prog 25 #[strOf x, strOf y] w fun e w' => e = .returned (strOf (Sha.hex ((x ++ [58]) ++ y))) ∧ Below w.heap.size w w' := by
  obtain ⟨h1, h2⟩ := pass_length hx hy
  have k1 : ∀ w, (binOp .add 9 (strOf x) (.string ⟨#[58]⟩)).run Try.prog w = .ok (strOf (x ++ [58])) w := fun w => run_join x [58] w (by simp; omega)
  have k2 : ∀ w, (binOp .add 9 (strOf (x ++ [58])) (strOf y)).run Try.prog w = .ok (strOf ((x ++ [58]) ++ y)) w := fun w => run_join (x ++ [58]) y w (by omega)
  generalize (x ++ [58]) = x1 at *
  generalize (x1 ++ y) = z at *
  have k3 := run_bytes_of z
  have H2 := Lib.hid h2
  clear h1 h2 hx hy
  go_enter Try.func25, Try.ntmps25
  go_wp2_with (go_at_call 23; refine (hexref_any (some ⟨w.heap.size, 0, none⟩) z.length _ z _ rfl (Nat.le_trans H2.out (by decide)) (by intro h; cases h) (bytes_read w z)).mono ?_; rintro e w1 ⟨rfl, hb1⟩; have HB1 := Lib.hid hb1; clear hb1)
  go_ret
  exact ⟨rfl, (bytes_below w z).trans (HB1.out.mono (bytes_below w z).size)⟩

theorem guard_str (x y : Operand) (l : List UInt8) (v : Value) : eqGuard .eql 9 x y (strOf l) v = pure () := rfl
theorem begun_read (w : World) : BRead (w.alloc (.cells #[.int .u8 97, .int .u8 98, .int .u8 99] 5 (3, 4))) (some ⟨w.heap.size, 0, none⟩) [97, 98, 99] :=
  bread_block (alloc_at w _) 0 _ rfl
set_option maxHeartbeats 400000 in
theorem begun_any (w : World) : Calls Try.prog 19 #[] w fun e w' => e = .returned (.bool true) ∧ Below w.heap.size w w' := by
  have kc := fun (w : World) (C : Array Value) (n c : Nat) => Lib.run_convert_bytes_const (P := Try.prog) w 25 5 C n c Try.underlying25 Try.underlying5
  have kg := guard_str
  have k4 : ∀ w, (binOp .eql 9 (strOf abcHex) (.string ⟨#[98, 97, 55, 56, 49, 54, 98, 102, 56, 102, 48, 49, 99, 102, 101, 97, 52, 49, 52, 49, 52, 48, 100, 101, 53, 100, 97, 101, 50, 50, 50, 51, 98, 48, 48, 51, 54, 49, 97, 51, 57, 54, 49, 55, 55, 97, 57, 99, 98, 52, 49, 48, 102, 102, 54, 49, 102, 50, 48, 48, 49, 53, 97, 100]⟩)).run Try.prog w = .ok (.bool true) w := fun w => run_same abcHex w
  go_enter Try.func19, Try.ntmps19
  go_wp2_with (go_at_call 22; refine (hex_any (some ⟨w.heap.size, 0, none⟩) 3 3 [97, 98, 99] _ rfl (by decide) (by intro h; cases h) (begun_read w)).mono ?_; rw [abc]; rintro e w1 ⟨rfl, hb1⟩; have HB1 := Lib.hid hb1; clear hb1)
  go_ret
  exact ⟨rfl, ((Below.refl _ _).alloc (Nat.le_refl _) _).trans (HB1.out.mono (by simp))⟩

end Go.Proofs.Ytnkbkkbpmjemiaa

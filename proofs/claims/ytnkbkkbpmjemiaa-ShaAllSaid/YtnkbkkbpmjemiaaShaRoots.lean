/- The reference's primes and roots: the constants of the rounds, the first words. Conditions: none but an index. -/
import Derived.Test.YtnkbkkbpmjemiaaPShaAllx1
import Derived.Test.YtnkbkkbpmjemiaaShaPad
namespace Go.Proofs.Ytnkbkkbpmjemiaa
open Go.RowKit Sha

def Pr : List Int := [2, 3, 5, 7, 11, 13, 17, 19, 23, 29, 31, 37, 41, 43, 47, 53, 59, 61, 67, 71, 73, 79, 83, 89, 97, 101, 103, 107, 109, 113, 127, 131, 137, 139, 149, 151, 157, 163, 167, 173, 179, 181, 191, 193, 197, 199, 211, 223, 227, 229, 233, 239, 241, 251, 257, 263, 269, 271, 277, 281, 283, 293, 307, 311]
set_option maxRecDepth 100000 in
theorem primes_val : PShaAll.lychgateref1_primes.f 20000 64 = some Pr := by decide +kernel
set_option maxRecDepth 100000 in
theorem roots_cube : ∀ i, i < 64 → PShaAll.lychgateref1_root.f 40 (Pr.getD i 0) true = some ((K.getD i 0).toNat : Int) := by decide +kernel
set_option maxRecDepth 100000 in
theorem roots_sq : ∀ i, i < 8 → PShaAll.lychgateref1_root.f 40 (Pr.getD i 0) false = some ((Sha.start.list.getD i 0).toNat : Int) := by decide +kernel
theorem primes_any (w : World) : Calls Try.prog 32 #[.int .i64 64] w fun e w' => ∃ v, e = .returned v ∧ w'.ownsRow w.heap.size 53 1 v 64 (Pr.map (Value.int .u64)) ∧ Below w.heap.size w w' :=
  (PShaAll.lychgateref1_primes.calls 20000 64 Pr w primes_val).mono fun e w' h => by
    obtain ⟨v, rfl, hr, hb⟩ := h
    exact ⟨v, rfl, YtnkbkkbpmjemiaaW.PrintWords.Kd.own_of_R hr, hb⟩
theorem root_cube (i : Nat) (h : i < 64) (w : World) : Calls Try.prog 33 #[.int .u64 (Pr.getD i 0), .bool true] w fun e w' => e = .returned (wordV (K.getD i 0)) ∧ ∃ n, w' = w.drewN n :=
  (PShaAll.lychgateref1_root.calls 40 _ true _ w (roots_cube i h)).mono fun _ _ h => ⟨h.1, h.2.out⟩
theorem root_sq (i : Nat) (h : i < 8) (w : World) : Calls Try.prog 33 #[.int .u64 (Pr.getD i 0), .bool false] w fun e w' => e = .returned (wordV (Sha.start.list.getD i 0)) ∧ ∃ n, w' = w.drewN n :=
  (PShaAll.lychgateref1_root.calls 40 _ false _ w (roots_sq i h)).mono fun _ _ h => ⟨h.1, h.2.out⟩

end Go.Proofs.Ytnkbkkbpmjemiaa

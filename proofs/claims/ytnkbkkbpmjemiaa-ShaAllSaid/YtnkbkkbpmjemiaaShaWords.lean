/- The program's operations on numbers of 32 bits are the hash's operations on words. No condition. -/
import Derived.Test.YtnkbkkbpmjemiaaShaPure
import Derived.WalkKit
namespace Go.Proofs.Ytnkbkkbpmjemiaa.Sha
open Go

theorem w_lt (a : UInt32) : a.toNat < 4294967296 := a.toNat_lt
theorem xorW (a b : UInt32) : bits .xor .u32 (a.toNat : Int) (b.toNat : Int) = ((a ^^^ b).toNat : Int) := by
  rw [u32_xor_nat a.toNat b.toNat (w_lt a) (w_lt b), UInt32.toNat_xor]
theorem andW (a b : UInt32) : bits .and .u32 (a.toNat : Int) (b.toNat : Int) = ((a &&& b).toNat : Int) := by
  rw [u32_and_nat a.toNat b.toNat (w_lt a) (w_lt b), UInt32.toNat_and]
theorem orW (a b : UInt32) : bits .or .u32 (a.toNat : Int) (b.toNat : Int) = ((a ||| b).toNat : Int) := by
  rw [u32_or_nat a.toNat b.toNat (w_lt a) (w_lt b), UInt32.toNat_or]
theorem notW (a : UInt32) : bits .xor .u32 IntKind.u32.max (a.toNat : Int) = ((~~~a).toNat : Int) := by
  have e : IntKind.u32.max = ((4294967295 : UInt32).toNat : Int) := by decide +kernel
  rw [e, xorW]
  congr 2
theorem addW (a b : UInt32) : ((a.toNat : Int) + (b.toNat : Int)) % 4294967296 = ((a + b).toNat : Int) := by
  rw [UInt32.toNat_add]; omega
theorem addW' (a b : UInt32) : IntKind.u32.wrap ((a.toNat : Int) + (b.toNat : Int)) = ((a + b).toNat : Int) := by
  rw [IntKind.wrap_u32', addW]
theorem shrW (a n : UInt32) (k : Nat) (p : Int) (hk : n.toNat % 32 = k) (hp : p = ((2 ^ k : Nat) : Int)) : (a.toNat : Int) / p = ((a >>> n).toNat : Int) := by
  rw [UInt32.toNat_shiftRight, hk, Nat.shiftRight_eq_div_pow, hp]
  rfl
theorem shlW (a n : UInt32) (k : Nat) (p : Int) (hk : n.toNat % 32 = k) (hp : p = ((2 ^ k : Nat) : Int)) : (a.toNat : Int) * p % 4294967296 = ((a <<< n).toNat : Int) := by
  rw [UInt32.toNat_shiftLeft, hk, Nat.shiftLeft_eq, hp, ← Int.natCast_mul]
  generalize a.toNat * 2 ^ k = q
  omega

/-! ### the same, as the walk writes them -/
theorem wB (x : UInt8) : IntKind.u32.wrap (x.toNat : Int) = (x.toUInt32.toNat : Int) := by
  rw [IntKind.wrap_u32', UInt8.toNat_toUInt32]
  have := x.toNat_lt
  omega
theorem wB' (x : UInt8) : (x.toNat : Int) % 4294967296 = (x.toUInt32.toNat : Int) := by
  rw [UInt8.toNat_toUInt32]
  have := x.toNat_lt
  omega
theorem wS24 (a : UInt32) : IntKind.u32.wrap ((a.toNat : Int) * 16777216) = ((a <<< 24).toNat : Int) := by rw [IntKind.wrap_u32']; exact shlW a 24 24 _ rfl rfl
theorem wS16 (a : UInt32) : IntKind.u32.wrap ((a.toNat : Int) * 65536) = ((a <<< 16).toNat : Int) := by rw [IntKind.wrap_u32']; exact shlW a 16 16 _ rfl rfl
theorem wS8 (a : UInt32) : IntKind.u32.wrap ((a.toNat : Int) * 256) = ((a <<< 8).toNat : Int) := by rw [IntKind.wrap_u32']; exact shlW a 8 8 _ rfl rfl
theorem wR3 (a : UInt32) : (a.toNat : Int) / (8 : Int) = ((a >>> 3).toNat : Int) := shrW a 3 3 (8 : Int) rfl rfl
theorem wR10 (a : UInt32) : (a.toNat : Int) / (1024 : Int) = ((a >>> 10).toNat : Int) := shrW a 10 10 (1024 : Int) rfl rfl

/-- Four bytes joined, as the walk writes them. -/
theorem wordE (a b c d : UInt8) : bits .or .u32 (bits .or .u32 (bits .or .u32 (IntKind.u32.wrap (IntKind.u32.wrap (a.toNat : Int) * 16777216)) (IntKind.u32.wrap (IntKind.u32.wrap (b.toNat : Int) * 65536))) (IntKind.u32.wrap (IntKind.u32.wrap (c.toNat : Int) * 256))) (IntKind.u32.wrap (d.toNat : Int)) = ((word a b c d).toNat : Int) := by
  rw [wB, wB, wB, wB, wS24, wS16, wS8, orW, orW, orW]
  rfl

/-- A word of the schedule, as the program writes it. -/
theorem nextE (a b c d : UInt32) : IntKind.u32.wrap (IntKind.u32.wrap (IntKind.u32.wrap ((a.toNat : Int) + bits .xor .u32 (bits .xor .u32 ((rotr b 7).toNat : Int) ((rotr b 18).toNat : Int)) ((b.toNat : Int) / 8)) + (c.toNat : Int)) + bits .xor .u32 (bits .xor .u32 ((rotr d 17).toNat : Int) ((rotr d 19).toNat : Int)) ((d.toNat : Int) / 1024)) = ((nextW a b c d).toNat : Int) := by
  rw [wR3, wR10, xorW, xorW, xorW, xorW, addW', addW', addW']
  rfl
/-- The same, as the reference writes it. -/
theorem nextR (a b c d : UInt32) : IntKind.u32.wrap (IntKind.u32.wrap (IntKind.u32.wrap ((a.toNat : Int) + (c.toNat : Int)) + bits .xor .u32 (bits .xor .u32 ((rotr b 7).toNat : Int) ((rotr b 18).toNat : Int)) ((b.toNat : Int) / 8)) + bits .xor .u32 (bits .xor .u32 ((rotr d 17).toNat : Int) ((rotr d 19).toNat : Int)) ((d.toNat : Int) / 1024)) = ((nextW a b c d).toNat : Int) := by
  rw [wR3, wR10, xorW, xorW, xorW, xorW, addW', addW', addW']
  unfold nextW
  rw [UInt32.add_assoc a c, UInt32.add_comm c, ← UInt32.add_assoc]
  rfl

/-- The two sums of a round, as the walk writes them. -/
theorem oneE (e f g h k w : UInt32) : IntKind.u32.wrap (IntKind.u32.wrap (IntKind.u32.wrap (IntKind.u32.wrap ((h.toNat : Int) + bits .xor .u32 (bits .xor .u32 ((rotr e 6).toNat : Int) ((rotr e 11).toNat : Int)) ((rotr e 25).toNat : Int)) + bits .xor .u32 (bits .and .u32 (e.toNat : Int) (f.toNat : Int)) (bits .and .u32 (bits .xor .u32 IntKind.u32.max (e.toNat : Int)) (g.toNat : Int))) + (k.toNat : Int)) + (w.toNat : Int)) = ((oneW e f g h k w).toNat : Int) := by
  rw [notW, andW, andW, xorW, xorW, xorW, addW', addW', addW', addW']
  rfl
theorem twoE (a b c : UInt32) : IntKind.u32.wrap (bits .xor .u32 (bits .xor .u32 ((rotr a 2).toNat : Int) ((rotr a 13).toNat : Int)) ((rotr a 22).toNat : Int) + bits .xor .u32 (bits .xor .u32 (bits .and .u32 (a.toNat : Int) (b.toNat : Int)) (bits .and .u32 (a.toNat : Int) (c.toNat : Int))) (bits .and .u32 (b.toNat : Int) (c.toNat : Int))) = ((twoW a b c).toNat : Int) := by
  rw [andW, andW, andW, xorW, xorW, xorW, xorW, addW']
  rfl

/-- The same, as the walk writes them in a region that only reads. -/
theorem oneQ (e f g h k w : UInt32) : (((h.toNat : Int) + bits .xor .u32 (bits .xor .u32 ((rotr e 6).toNat : Int) ((rotr e 11).toNat : Int)) ((rotr e 25).toNat : Int) + bits .xor .u32 (bits .and .u32 (e.toNat : Int) (f.toNat : Int)) (bits .and .u32 (bits .xor .u32 (if IntKind.u32.signed = true then -1 else IntKind.u32.max) (e.toNat : Int)) (g.toNat : Int)) + (k.toNat : Int)) % 4294967296 + (w.toNat : Int)) % 4294967296 = ((oneW e f g h k w).toNat : Int) := by
  rw [show (if IntKind.u32.signed = true then -1 else IntKind.u32.max) = IntKind.u32.max from rfl]
  rw [← oneE]
  simp only [IntKind.wrap_u32']
  omega
theorem twoQ (a b c : UInt32) : (bits .xor .u32 (bits .xor .u32 ((rotr a 2).toNat : Int) ((rotr a 13).toNat : Int)) ((rotr a 22).toNat : Int) + bits .xor .u32 (bits .xor .u32 (bits .and .u32 (a.toNat : Int) (b.toNat : Int)) (bits .and .u32 (a.toNat : Int) (c.toNat : Int))) (bits .and .u32 (b.toNat : Int) (c.toNat : Int))) % 4294967296 = ((twoW a b c).toNat : Int) := by
  rw [← twoE, IntKind.wrap_u32']

end Go.Proofs.Ytnkbkkbpmjemiaa.Sha

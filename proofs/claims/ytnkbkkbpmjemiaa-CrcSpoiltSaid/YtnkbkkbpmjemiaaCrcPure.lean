/- The plain law of the sums: the document's sum of bytes, bit by bit, over natural numbers; it goes on over joined bytes, and a changed byte changes it. No condition but that numbers are below 2^32. -/
import Derived.Laws.BitsAllLaws
namespace Go.Proofs.Ytnkbkkbpmjemiaa.Crc
open Go

def poly : Nat := 3988292384
def mask : Nat := 4294967295
/-- One bit. -/
def bit (x : Nat) : Nat := if x % 2 = 1 then x / 2 ^^^ 3988292384 else x / 2
/-- n bits. -/
def bitsN : Nat → Nat → Nat
  | 0, x => x
  | n + 1, x => bit (bitsN n x)
/-- One byte. -/
def byte (x : Nat) (c : UInt8) : Nat := bitsN 8 (x ^^^ c.toNat)
/-- The state behind bytes. -/
def raw (x : Nat) (l : List UInt8) : Nat := l.foldl byte x
/-- The sum that goes on from s. -/
def sum (s : Nat) (l : List UInt8) : Nat := 4294967295 ^^^ raw (4294967295 ^^^ s) l

theorem bit_lt {x : Nat} (h : x < 4294967296) : bit x < 4294967296 := by
  unfold bit
  split
  · exact Nat.xor_lt_two_pow (n := 32) (by omega) (by decide)
  · omega
theorem bitsN_lt (n : Nat) {x : Nat} (h : x < 4294967296) : bitsN n x < 4294967296 := by
  induction n with
  | zero => exact h
  | succ n ih => exact bit_lt ih
theorem xor_lt {x y : Nat} (h : x < 4294967296) (k : y < 4294967296) : x ^^^ y < 4294967296 := Nat.xor_lt_two_pow (n := 32) h k
theorem u8_lt (c : UInt8) : c.toNat < 256 := c.toNat_lt
theorem u8_lt32 (c : UInt8) : c.toNat < 4294967296 := Nat.lt_trans (u8_lt c) (by decide)
theorem byte_lt {x : Nat} (h : x < 4294967296) (c : UInt8) : byte x c < 4294967296 := bitsN_lt 8 (xor_lt h (u8_lt32 c))
theorem raw_lt (l : List UInt8) : ∀ {x : Nat}, x < 4294967296 → raw x l < 4294967296 := by
  induction l with
  | nil => intro x h; exact h
  | cons c l ih => intro x h; exact ih (byte_lt h c)
theorem raw_append (x : Nat) (l m : List UInt8) : raw x (l ++ m) = raw (raw x l) m := List.foldl_append
theorem raw_snoc (x : Nat) (l : List UInt8) (c : UInt8) : raw x (l ++ [c]) = byte (raw x l) c := by rw [raw_append]; rfl
theorem sum_lt (l : List UInt8) {s : Nat} (h : s < 4294967296) : sum s l < 4294967296 := xor_lt (by decide) (raw_lt l (xor_lt (by decide) h))
theorem mask_mask (x : Nat) : 4294967295 ^^^ (4294967295 ^^^ x) = x := by rw [← Nat.xor_assoc, Nat.xor_self, Nat.zero_xor]
theorem sum_append (s : Nat) (l m : List UInt8) : sum s (l ++ m) = sum (sum s l) m := by
  unfold sum
  rw [mask_mask, raw_append]
theorem sum_nil (s : Nat) : sum s [] = s := by
  show 4294967295 ^^^ (4294967295 ^^^ s) = s
  exact mask_mask s
/-- The sum of parts. -/
def sums (s : Nat) (ls : List (List UInt8)) : Nat := ls.foldl sum s
theorem sums_snoc (s : Nat) (ls : List (List UInt8)) (l : List UInt8) : sums s (ls ++ [l]) = sum (sums s ls) l := by
  unfold sums; rw [List.foldl_append]; rfl
theorem sums_lt (ls : List (List UInt8)) : ∀ {s : Nat}, s < 4294967296 → sums s ls < 4294967296 := by
  induction ls with
  | nil => intro s h; exact h
  | cons l ls ih => intro s h; exact ih (sum_lt l h)
theorem sums_flat (ls : List (List UInt8)) : ∀ (s : Nat), sums s ls = sum s ls.flatten := by
  induction ls with
  | nil => intro s; exact (sum_nil s).symm
  | cons l ls ih => intro s; rw [List.flatten_cons, sum_append]; exact ih (sum s l)

/-! ### a changed byte -/
theorem xor_cancel {a b c : Nat} (h : a ^^^ c = b ^^^ c) : a = b := by
  have := congrArg (· ^^^ c) h
  simpa [Nat.xor_assoc] using this
theorem top_bit {x : Nat} (h : x < 4294967296) : (bit x).testBit 31 = decide (x % 2 = 1) := by
  have hd : (x / 2).testBit 31 = false := Nat.testBit_lt_two_pow (by omega)
  unfold bit
  split
  · rename_i h1
    rw [Nat.testBit_xor, hd, decide_eq_true h1]
    decide
  · rename_i h1
    rw [hd, decide_eq_false h1]
theorem bit_inj {x y : Nat} (hx : x < 4294967296) (hy : y < 4294967296) (h : bit x = bit y) : x = y := by
  have ht := top_bit hx
  rw [h, top_bit hy] at ht
  have he : (x % 2 = 1) ↔ (y % 2 = 1) := by
    have := decide_eq_decide.1 ht
    exact this.symm
  unfold bit at h
  by_cases h1 : x % 2 = 1
  · rw [if_pos h1, if_pos (he.1 h1)] at h
    have := xor_cancel h
    have := he.1 h1
    omega
  · rw [if_neg h1, if_neg (fun k => h1 (he.2 k))] at h
    have : ¬ y % 2 = 1 := fun k => h1 (he.2 k)
    omega
theorem bitsN_inj (n : Nat) {x y : Nat} (hx : x < 4294967296) (hy : y < 4294967296) (h : bitsN n x = bitsN n y) : x = y := by
  induction n with
  | zero => exact h
  | succ n ih => exact ih (bit_inj (bitsN_lt n hx) (bitsN_lt n hy) h)
theorem byte_inj {x y : Nat} (hx : x < 4294967296) (hy : y < 4294967296) (c : UInt8) (h : byte x c = byte y c) : x = y :=
  xor_cancel (bitsN_inj 8 (xor_lt hx (u8_lt32 c)) (xor_lt hy (u8_lt32 c)) h)
theorem raw_inj (l : List UInt8) : ∀ {x y : Nat}, x < 4294967296 → y < 4294967296 → raw x l = raw y l → x = y := by
  induction l with
  | nil => intro x y _ _ h; exact h
  | cons c l ih => intro x y hx hy h; exact byte_inj hx hy c (ih (byte_lt hx c) (byte_lt hy c) h)
theorem byte_ne {x : Nat} (hx : x < 4294967296) {c d : UInt8} (h : byte x c = byte x d) : c = d := by
  have := bitsN_inj 8 (xor_lt hx (u8_lt32 c)) (xor_lt hx (u8_lt32 d)) h
  rw [Nat.xor_comm x, Nat.xor_comm x] at this
  exact UInt8.toNat_inj.1 (xor_cancel this)
theorem sum_spoilt {s : Nat} (hs : s < 4294967296) (l m : List UInt8) {c d : UInt8} (h : sum s (l ++ c :: m) = sum s (l ++ d :: m)) : c = d := by
  unfold sum at h
  rw [Nat.xor_comm 4294967295, Nat.xor_comm 4294967295 (raw _ _)] at h
  have h := xor_cancel h
  rw [raw_append, raw_append] at h
  have hl := raw_lt l (xor_lt (x := 4294967295) (by decide) hs)
  exact byte_ne hl (raw_inj m (byte_lt hl c) (byte_lt hl d) h)
theorem sum_set {s : Nat} (hs : s < 4294967296) (l : List UInt8) (i : Nat) (hi : i < l.length) (d : UInt8) (h : sum s l = sum s (l.set i d)) : l[i] = d := by
  have e1 : l = l.take i ++ l[i] :: l.drop (i + 1) := by simp
  have e2 : l.set i d = l.take i ++ d :: l.drop (i + 1) := List.set_eq_take_append_cons_drop.trans (by rw [if_pos hi])
  rw [e2] at h
  exact sum_spoilt hs (l.take i) (l.drop (i + 1)) (by rw [← h]; exact congrArg _ e1.symm)

/-! ### the program's words -/
theorem not_word {x : Nat} (h : x < 4294967296) : bits .xor .u32 4294967295 (x : Int) = ((4294967295 ^^^ x : Nat) : Int) := u32_xor_nat 4294967295 x (by decide) h
theorem xor_word {x : Nat} (h : x < 4294967296) (c : UInt8) : bits .xor .u32 (x : Int) (c.toNat : Int) = ((x ^^^ c.toNat : Nat) : Int) := u32_xor_nat x c.toNat h (u8_lt32 c)
theorem and_one {x : Nat} (h : x < 4294967296) : bits .and .u32 (x : Int) 1 = ((x % 2 : Nat) : Int) := by
  have := u32_and_nat x 1 h (by decide)
  rw [nat_mask1] at this
  exact this
theorem bit_word {x : Nat} (h : x < 4294967296) :
    bits .xor .u32 ((x : Int) / 2) (bits .and .u32 3988292384 ((-(bits .and .u32 (x : Int) 1)) % 4294967296)) = ((bit x : Nat) : Int) := by
  rw [and_one h]
  unfold bit
  by_cases h1 : x % 2 = 1
  · rw [if_pos h1, h1]
    have e : bits .and .u32 3988292384 ((-((1 : Nat) : Int)) % 4294967296) = ((3988292384 : Nat) : Int) := by decide +kernel
    rw [e]
    have := u32_xor_nat (x / 2) 3988292384 (by omega) (by decide)
    rw [← this]
    rfl
  · have h0 : x % 2 = 0 := by omega
    rw [if_neg h1, h0]
    have e : bits .and .u32 3988292384 ((-((0 : Nat) : Int)) % 4294967296) = ((0 : Nat) : Int) := by decide +kernel
    rw [e]
    have := u32_xor_nat (x / 2) 0 (by omega) (by decide)
    rw [Nat.xor_zero] at this
    rw [← this]
    rfl
theorem ref_odd {x : Nat} (h : x < 4294967296) (h1 : x % 2 = 1) : bits .xor .u32 ((x : Int) / 2) 3988292384 = ((bit x : Nat) : Int) := by
  unfold bit
  rw [if_pos h1]
  have := u32_xor_nat (x / 2) 3988292384 (by omega) (by decide)
  rw [← this]
  rfl
theorem ref_even {x : Nat} (h1 : ¬ x % 2 = 1) : ((x : Int) / 2) = ((bit x : Nat) : Int) := by
  unfold bit
  rw [if_neg h1]
  rfl
theorem nine : sum 0 [49, 50, 51, 52, 53, 54, 55, 56, 57] = 3421780262 := by decide +kernel

end Go.Proofs.Ytnkbkkbpmjemiaa.Crc

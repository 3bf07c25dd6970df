/- The document's hash of bytes, over words of 32 bits, in plain Lean, and the laws that tie its words to the program's numbers. No condition. -/
import Derived.Laws.BitsAllLaws
namespace Go.Proofs.Ytnkbkkbpmjemiaa.Sha
open Go

def rotr (x n : UInt32) : UInt32 := x >>> n ||| x <<< (32 - n)
def lowS0 (x : UInt32) : UInt32 := rotr x 7 ^^^ rotr x 18 ^^^ x >>> 3
def lowS1 (x : UInt32) : UInt32 := rotr x 17 ^^^ rotr x 19 ^^^ x >>> 10
def upS0 (x : UInt32) : UInt32 := rotr x 2 ^^^ rotr x 13 ^^^ rotr x 22
def upS1 (x : UInt32) : UInt32 := rotr x 6 ^^^ rotr x 11 ^^^ rotr x 25
def ch (e f g : UInt32) : UInt32 := e &&& f ^^^ ~~~e &&& g
def maj (a b c : UInt32) : UInt32 := a &&& b ^^^ a &&& c ^^^ b &&& c

/-- The constants of the rounds, the first words. -/
def K : List UInt32 := [0x428a2f98, 0x71374491, 0xb5c0fbcf, 0xe9b5dba5, 0x3956c25b, 0x59f111f1, 0x923f82a4, 0xab1c5ed5, 0xd807aa98, 0x12835b01, 0x243185be, 0x550c7dc3, 0x72be5d74, 0x80deb1fe, 0x9bdc06a7, 0xc19bf174, 0xe49b69c1, 0xefbe4786, 0x0fc19dc6, 0x240ca1cc, 0x2de92c6f, 0x4a7484aa, 0x5cb0a9dc, 0x76f988da, 0x983e5152, 0xa831c66d, 0xb00327c8, 0xbf597fc7, 0xc6e00bf3, 0xd5a79147, 0x06ca6351, 0x14292967, 0x27b70a85, 0x2e1b2138, 0x4d2c6dfc, 0x53380d13, 0x650a7354, 0x766a0abb, 0x81c2c92e, 0x92722c85, 0xa2bfe8a1, 0xa81a664b, 0xc24b8b70, 0xc76c51a3, 0xd192e819, 0xd6990624, 0xf40e3585, 0x106aa070, 0x19a4c116, 0x1e376c08, 0x2748774c, 0x34b0bcb5, 0x391c0cb3, 0x4ed8aa4a, 0x5b9cca4f, 0x682e6ff3, 0x748f82ee, 0x78a5636f, 0x84c87814, 0x8cc70208, 0x90befffa, 0xa4506ceb, 0xbef9a3f7, 0xc67178f2]
def H0 : List UInt32 := [0x6a09e667, 0xbb67ae85, 0x3c6ef372, 0xa54ff53a, 0x510e527f, 0x9b05688c, 0x1f83d9ab, 0x5be0cd19]

def word (a b c d : UInt8) : UInt32 := a.toUInt32 <<< 24 ||| b.toUInt32 <<< 16 ||| c.toUInt32 <<< 8 ||| d.toUInt32
/-- The first n words of a block. -/
def firsts (m : List UInt8) (n : Nat) : List UInt32 := (List.range n).map fun i => word (m.getD (4 * i) 0) (m.getD (4 * i + 1) 0) (m.getD (4 * i + 2) 0) (m.getD (4 * i + 3) 0)
def nextW (a b c d : UInt32) : UInt32 := a + lowS0 b + c + lowS1 d
def next (w : List UInt32) : UInt32 := nextW (w.getD (w.length - 16) 0) (w.getD (w.length - 15) 0) (w.getD (w.length - 7) 0) (w.getD (w.length - 2) 0)
/-- The words of a block, n of them behind the first sixteen. -/
def sched (m : List UInt8) : Nat → List UInt32
  | 0 => firsts m 16
  | n + 1 => sched m n ++ [next (sched m n)]

structure St where
  a : UInt32
  b : UInt32
  c : UInt32
  d : UInt32
  e : UInt32
  f : UInt32
  g : UInt32
  h : UInt32
def St.list (s : St) : List UInt32 := [s.a, s.b, s.c, s.d, s.e, s.f, s.g, s.h]
def oneW (e f g h k w : UInt32) : UInt32 := h + upS1 e + ch e f g + k + w
def twoW (a b c : UInt32) : UInt32 := upS0 a + maj a b c
def one (s : St) (k w : UInt32) : UInt32 := oneW s.e s.f s.g s.h k w
def two (s : St) : UInt32 := twoW s.a s.b s.c
def rnd (s : St) (k w : UInt32) : St := ⟨one s k w + two s, s.a, s.b, s.c, s.d + one s k w, s.e, s.f, s.g⟩
def rnds (w : List UInt32) (s : St) : Nat → St
  | 0 => s
  | n + 1 => rnd (rnds w s n) (K.getD n 0) (w.getD n 0)
def St.add (s t : St) : St := ⟨s.a + t.a, s.b + t.b, s.c + t.c, s.d + t.d, s.e + t.e, s.f + t.f, s.g + t.g, s.h + t.h⟩
/-- A block mixed in. -/
def mix (s : St) (m : List UInt8) : St := s.add (rnds (sched m 48) s 64)
def start : St := ⟨0x6a09e667, 0xbb67ae85, 0x3c6ef372, 0xa54ff53a, 0x510e527f, 0x9b05688c, 0x1f83d9ab, 0x5be0cd19⟩

/-- n blocks of l mixed in. -/
def mixes (s : St) (l : List UInt8) : Nat → St
  | 0 => s
  | n + 1 => mix (mixes s l n) ((l.drop (64 * n)).take 64)
/-- How many zeros stand behind the mark. -/
def zeros (n : Nat) : Nat := (119 - n % 64) % 64
/-- The length in eight bytes, the first i of them. -/
def lenB (n : Nat) (i : Nat) : List UInt8 := (List.range i).map fun j => UInt8.ofNat (8 * n / 2 ^ (8 * (7 - j)))
def pad (l : List UInt8) : List UInt8 := l ++ 128 :: (List.replicate (zeros l.length) 0 ++ lenB l.length 8)
def bytes4 (x : UInt32) : List UInt8 := [(x >>> 24).toUInt8, (x >>> 16).toUInt8, (x >>> 8).toUInt8, x.toUInt8]
/-- The hash. -/
def sum (l : List UInt8) : List UInt8 := (mixes start (pad l) ((pad l).length / 64)).list.flatMap bytes4
def digit (n : Nat) : UInt8 := [48, 49, 50, 51, 52, 53, 54, 55, 56, 57, 97, 98, 99, 100, 101, 102].getD n 0
def hex2 (c : UInt8) : List UInt8 := [digit (c.toNat / 16), digit (c.toNat % 16)]
def hex (l : List UInt8) : List UInt8 := (sum l).flatMap hex2

theorem firsts_length (m : List UInt8) (n : Nat) : (firsts m n).length = n := by simp [firsts]
theorem firsts_succ (m : List UInt8) (n : Nat) : firsts m (n + 1) = firsts m n ++ [word (m.getD (4 * n) 0) (m.getD (4 * n + 1) 0) (m.getD (4 * n + 2) 0) (m.getD (4 * n + 3) 0)] := by simp [firsts, List.range_succ]
theorem sched_length (m : List UInt8) (n : Nat) : (sched m n).length = 16 + n := by
  induction n with
  | zero => exact firsts_length m 16
  | succ n ih => simp [sched, ih]; omega
/-- The place behind what is filled is filled. -/
theorem fill_set (l : List UInt32) (n : Nat) (x : UInt32) (h : 0 < n) : (l ++ List.replicate n 0).set l.length x = (l ++ [x]) ++ List.replicate (n - 1) 0 := by
  obtain ⟨k, rfl⟩ : ∃ k, n = k + 1 := ⟨n - 1, by omega⟩
  rw [List.set_append_right _ _ (Nat.le_refl _)]
  simp [List.replicate_succ]
theorem fill_get (l : List UInt32) (n i : Nat) (h : i < l.length) : (l ++ List.replicate n 0).getD i 0 = l.getD i 0 := by
  simp [List.getD, List.getElem?_append_left h]

/-- The first k words of x with those of y added. -/
def addTo (x y : List UInt32) (k : Nat) : List UInt32 := (List.range 8).map fun i => if i < k then x.getD i 0 + y.getD i 0 else x.getD i 0
theorem addTo_length (x y : List UInt32) (k : Nat) : (addTo x y k).length = 8 := by simp [addTo]
theorem addTo_get (x y : List UInt32) (k i : Nat) (h : i < 8) : (addTo x y k).getD i 0 = if i < k then x.getD i 0 + y.getD i 0 else x.getD i 0 := by
  simp [addTo, List.getD, h]
theorem addTo_set (x y : List UInt32) (k : Nat) : (addTo x y k).set k (x.getD k 0 + y.getD k 0) = addTo x y (k + 1) := by
  apply List.ext_getElem?
  intro i
  rw [List.getElem?_set]
  by_cases h : k = i
  · subst h
    by_cases hk : k < 8
    · simp [addTo, hk]
    · simp [addTo, hk]
  · rw [if_neg h]
    by_cases hi : i < 8
    · simp only [addTo, List.getElem?_map, List.getElem?_range hi, Option.map_some]
      by_cases hik : i < k
      · rw [if_pos hik, if_pos (by omega)]
      · rw [if_neg hik, if_neg (by omega)]
    · simp [addTo, hi]
theorem addTo_all (s t : St) : addTo s.list t.list 8 = (s.add t).list := rfl
theorem addTo_none (s : St) (y : List UInt32) : addTo s.list y 0 = s.list := rfl

def abcHex : List UInt8 := [98,97,55,56,49,54,98,102,56,102,48,49,99,102,101,97,52,49,52,49,52,48,100,101,53,100,97,101,50,50,50,51,98,48,48,51,54,49,97,51,57,54,49,55,55,97,57,99,98,52,49,48,102,102,54,49,102,50,48,48,49,53,97,100]
theorem abc_sum : sum [97, 98, 99] = [0xba,0x78,0x16,0xbf,0x8f,0x01,0xcf,0xea,0x41,0x41,0x40,0xde,0x5d,0xae,0x22,0x23,0xb0,0x03,0x61,0xa3,0x96,0x17,0x7a,0x9c,0xb4,0x10,0xff,0x61,0xf2,0x00,0x15,0xad] := by decide +kernel
theorem abc : hex [97, 98, 99] = abcHex := by unfold hex; rw [abc_sum]; decide +kernel

end Go.Proofs.Ytnkbkkbpmjemiaa.Sha

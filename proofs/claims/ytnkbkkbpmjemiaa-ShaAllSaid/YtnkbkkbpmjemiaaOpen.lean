/- The arguments of the laws, opened: a slice of bytes, a slice of slices of bytes, as lists of bytes in memory. Conditions: the argument reads as data. -/
import Derived.Test.YtnkbkkbpmjemiaaOwn
import Derived.ProofKit
import Derived.OpenShut
import Derived.ShutString
import Derived.ChangeOld
import Derived.Below
import Derived.SizedLaws
import Derived.Deep.Matrix
namespace Go.Proofs.Ytnkbkkbpmjemiaa
open Go.ChangeShapes Go.WideShapes Go.ChangeAt Go.RowKit Go.Deep

theorem Try.own : ownKnob Try.prog.godebug = none := by kernel_rfl
theorem Try.laidOut : laidOutB Try.prog = true := by kernel_rfl

def bytesOf (zs : List Int) : List UInt8 := zs.map fun n => UInt8.ofNat n.toNat
theorem u8_back {n : Int} (h : (Lit.int .u8 n).wf = true) : ((UInt8.ofNat n.toNat).toNat : Int) = n := by
  obtain ⟨h1, h2⟩ := bounds_u8 h
  rw [UInt8.toNat_ofNat']
  omega
theorem bread_ints {w : World} {a : Addr} {zs : List Int} {n : Nat} (hw : ∀ m ∈ zs, (Lit.int .u8 m).wf = true) (hn : n ≤ zs.length) (hc : ∀ i, i < zs.length → w.cell? (a.add i) = some (.int .u8 (zs.getD i 0))) :
    (bytesOf (zs.take n)).length = n ∧ BRead w (some a) (bytesOf (zs.take n)) := by
  have hl : (bytesOf (zs.take n)).length = n := by simp [bytesOf]; omega
  refine ⟨hl, fun i hi => ⟨a, rfl, ?_⟩⟩
  have hi' : i < zs.length := by omega
  rw [hc i hi', getD_eq _ i 0 hi, getD_eq zs i 0 hi']
  simp only [bytesOf, List.getElem_map, List.getElem_take]
  rw [u8_back (hw _ (List.getElem_mem hi'))]

section
variable {H : Type} {enc : TypeId × Value → H} {W : World} {held : Bool}
theorem open_bytes {A : Option Addr} {n c : Nat} {d : DataW H} {ps : List MemPlace} (h : DataW.Trod enc Try.prog W 0 (fun _ => true) held 25 (.slice A n c) d ps) :
    ∃ l : List UInt8, l.length = n ∧ n ≤ c ∧ c ≤ maxLen ∧ (A = none → c = 0) ∧ BRead W A l := by
  obtain ⟨fuel, hf⟩ := h
  rcases open_ints Try.underlying25 Try.underlying5 (by kernel_rfl) hf with ⟨hcs, _⟩ | ⟨a, len, cap, zs, hcs, _, hl, hm, hz, _, hcell, hwz⟩
  · simp [Value.cells] at hcs
    obtain ⟨rfl, rfl, rfl⟩ := hcs
    exact ⟨[], rfl, Nat.le_refl _, Nat.zero_le _, fun _ => rfl, BRead.nil _ _⟩
  · simp [Value.cells] at hcs
    obtain ⟨rfl, rfl, rfl⟩ := hcs
    have hz' : zs.length = c := by simpa using hz
    obtain ⟨h1, h2⟩ := bread_ints hwz (by omega : n ≤ zs.length) hcell
    exact ⟨_, h1, hl, hm, (fun h => by cases h), h2⟩
theorem open_byte_rows {A : Option Addr} {n c : Nat} {d : DataW H} {ps : List MemPlace} (h : DataW.Trod enc Try.prog W 0 (fun _ => true) held 24 (.slice A n c) d ps) :
    ∃ (AF : Nat → Option Addr) (CF : Nat → Nat) (ls : List (List UInt8)), ls.length = n ∧ n ≤ c ∧ c ≤ maxLen ∧
      (∀ i, i < ls.length → ∃ ad, A = some ad ∧ W.cell? (ad.add i) = some (.slice (AF i) (ls.getD i []).length (CF i))) ∧
      (∀ i, i < ls.length → (ls.getD i []).length ≤ CF i ∧ CF i ≤ 9223372036854775807 ∧ (AF i = none → CF i = 0) ∧ BRead W (AF i) (ls.getD i [])) := by
  obtain ⟨fuel, hf⟩ := h
  rcases open_int_rows Try.underlying24 Try.underlying25 Try.underlying5 (by kernel_rfl) (by kernel_rfl) hf with ⟨hcs, _⟩ | ⟨a, len, cap, AF, L, CF, Z, hcs, _, hl, hm, _, hcell⟩
  · simp [Value.cells] at hcs
    obtain ⟨rfl, rfl, rfl⟩ := hcs
    exact ⟨fun _ => none, fun _ => 0, [], rfl, Nat.le_refl _, Nat.zero_le _, fun _ hi => absurd hi (Nat.not_lt_zero _), fun _ hi => absurd hi (Nat.not_lt_zero _)⟩
  · simp [Value.cells] at hcs
    obtain ⟨rfl, rfl, rfl⟩ := hcs
    have hlen : ((List.range n).map fun r => bytesOf ((Z r).take (L r))).length = n := by simp
    have hget : ∀ i, i < n → ((List.range n).map fun r => bytesOf ((Z r).take (L r))).getD i [] = bytesOf ((Z i).take (L i)) := by
      intro i hi
      rw [getD_eq _ i [] (by rw [hlen]; exact hi)]
      simp
    have each : ∀ i, i < n → (bytesOf ((Z i).take (L i))).length = L i ∧ BRead W (AF i) (bytesOf ((Z i).take (L i))) := by
      intro i hi
      obtain ⟨_, r1, _, r3, r4, r5, r6⟩ := hcell i (by omega)
      cases hA : AF i with
      | none =>
        have h0 := r5 hA
        have hL : L i = 0 := by omega
        rw [hL]
        exact ⟨rfl, BRead.nil _ _⟩
      | some a' =>
        obtain ⟨_, hc⟩ := r6 a' hA
        exact bread_ints r4 (by omega) (fun j hj => hc j (by omega))
    refine ⟨AF, CF, _, hlen, hl, hm, fun i hi => ⟨a, rfl, ?_⟩, fun i hi => ?_⟩
    · rw [hlen] at hi
      rw [hget i hi, (each i hi).1]
      exact (hcell i (by omega)).1
    · rw [hlen] at hi
      rw [hget i hi, (each i hi).1]
      obtain ⟨_, r1, r2, _, _, r5, _⟩ := hcell i (by omega)
      exact ⟨r1, by unfold maxLen at r2; exact r2, r5, (each i hi).2⟩
end

end Go.Proofs.Ytnkbkkbpmjemiaa

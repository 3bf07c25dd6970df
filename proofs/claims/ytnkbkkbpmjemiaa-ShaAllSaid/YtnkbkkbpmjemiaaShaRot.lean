/- What the two turns of a word do: sha.right and the reference's rot turn it to the right. No condition. Printed by gen_rot.py. -/
import Derived.Test.YtnkbkkbpmjemiaaRows
import Derived.Test.YtnkbkkbpmjemiaaShaWords
import Derived.WalkKit
import Derived.WalkSpells
import Derived.WalkLawsBesides
import Derived.Lib.Hide
namespace Go.Proofs.Ytnkbkkbpmjemiaa
open Go.RowKit Sha

theorem ret_w {a : Int} {b : UInt32} (h : a = (b.toNat : Int)) : Ending.returned (.int .u32 a) = .returned (.int .u32 (b.toNat : Int)) := by rw [h]
set_option maxHeartbeats 400000 in
theorem right_2 (x : UInt32) (w : World) : Calls Try.prog 30 #[.int .u32 (x.toNat : Int), .int .i64 2] w fun e w' => e = .returned (.int .u32 ((rotr x 2).toNat : Int)) ∧ w = w' := by
  have ha : bits .and .u64 (IntKind.u64.wrap (-2)) 31 = 30 := by decide +kernel
  go_enter Try.func30, Try.ntmps30
  go_wp2
  go_ret
  exact ⟨ret_w (by rw [shrW x 2 2 4 rfl rfl, shlW x 30 30 1073741824 rfl rfl, orW]; show _ = ((x >>> 2 ||| x <<< 30).toNat : Int); rw [UInt32.or_comm]), rfl⟩
set_option maxHeartbeats 400000 in
theorem rot_2 (x : UInt32) (w : World) : Calls Try.prog 37 #[.int .u32 (x.toNat : Int), .int .u64 2] w fun e w' => e = .returned (.int .u32 ((rotr x 2).toNat : Int)) ∧ w = w' := by
  go_enter Try.func37, Try.ntmps37
  go_wp2
  go_ret
  exact ⟨ret_w (by rw [shrW x 2 2 4 rfl rfl, shlW x 30 30 1073741824 rfl rfl, orW]; rfl), rfl⟩
set_option maxHeartbeats 400000 in
theorem right_6 (x : UInt32) (w : World) : Calls Try.prog 30 #[.int .u32 (x.toNat : Int), .int .i64 6] w fun e w' => e = .returned (.int .u32 ((rotr x 6).toNat : Int)) ∧ w = w' := by
  have ha : bits .and .u64 (IntKind.u64.wrap (-6)) 31 = 26 := by decide +kernel
  go_enter Try.func30, Try.ntmps30
  go_wp2
  go_ret
  exact ⟨ret_w (by rw [shrW x 6 6 64 rfl rfl, shlW x 26 26 67108864 rfl rfl, orW]; show _ = ((x >>> 6 ||| x <<< 26).toNat : Int); rw [UInt32.or_comm]), rfl⟩
set_option maxHeartbeats 400000 in
theorem rot_6 (x : UInt32) (w : World) : Calls Try.prog 37 #[.int .u32 (x.toNat : Int), .int .u64 6] w fun e w' => e = .returned (.int .u32 ((rotr x 6).toNat : Int)) ∧ w = w' := by
  go_enter Try.func37, Try.ntmps37
  go_wp2
  go_ret
  exact ⟨ret_w (by rw [shrW x 6 6 64 rfl rfl, shlW x 26 26 67108864 rfl rfl, orW]; rfl), rfl⟩
set_option maxHeartbeats 400000 in
theorem right_7 (x : UInt32) (w : World) : Calls Try.prog 30 #[.int .u32 (x.toNat : Int), .int .i64 7] w fun e w' => e = .returned (.int .u32 ((rotr x 7).toNat : Int)) ∧ w = w' := by
  have ha : bits .and .u64 (IntKind.u64.wrap (-7)) 31 = 25 := by decide +kernel
  go_enter Try.func30, Try.ntmps30
  go_wp2
  go_ret
  exact ⟨ret_w (by rw [shrW x 7 7 128 rfl rfl, shlW x 25 25 33554432 rfl rfl, orW]; show _ = ((x >>> 7 ||| x <<< 25).toNat : Int); rw [UInt32.or_comm]), rfl⟩
set_option maxHeartbeats 400000 in
theorem rot_7 (x : UInt32) (w : World) : Calls Try.prog 37 #[.int .u32 (x.toNat : Int), .int .u64 7] w fun e w' => e = .returned (.int .u32 ((rotr x 7).toNat : Int)) ∧ w = w' := by
  go_enter Try.func37, Try.ntmps37
  go_wp2
  go_ret
  exact ⟨ret_w (by rw [shrW x 7 7 128 rfl rfl, shlW x 25 25 33554432 rfl rfl, orW]; rfl), rfl⟩
set_option maxHeartbeats 400000 in
theorem right_11 (x : UInt32) (w : World) : Calls Try.prog 30 #[.int .u32 (x.toNat : Int), .int .i64 11] w fun e w' => e = .returned (.int .u32 ((rotr x 11).toNat : Int)) ∧ w = w' := by
  have ha : bits .and .u64 (IntKind.u64.wrap (-11)) 31 = 21 := by decide +kernel
  go_enter Try.func30, Try.ntmps30
  go_wp2
  go_ret
  exact ⟨ret_w (by rw [shrW x 11 11 2048 rfl rfl, shlW x 21 21 2097152 rfl rfl, orW]; show _ = ((x >>> 11 ||| x <<< 21).toNat : Int); rw [UInt32.or_comm]), rfl⟩
set_option maxHeartbeats 400000 in
theorem rot_11 (x : UInt32) (w : World) : Calls Try.prog 37 #[.int .u32 (x.toNat : Int), .int .u64 11] w fun e w' => e = .returned (.int .u32 ((rotr x 11).toNat : Int)) ∧ w = w' := by
  go_enter Try.func37, Try.ntmps37
  go_wp2
  go_ret
  exact ⟨ret_w (by rw [shrW x 11 11 2048 rfl rfl, shlW x 21 21 2097152 rfl rfl, orW]; rfl), rfl⟩
set_option maxHeartbeats 400000 in
theorem right_13 (x : UInt32) (w : World) : Calls Try.prog 30 #[.int .u32 (x.toNat : Int), .int .i64 13] w fun e w' => e = .returned (.int .u32 ((rotr x 13).toNat : Int)) ∧ w = w' := by
  have ha : bits .and .u64 (IntKind.u64.wrap (-13)) 31 = 19 := by decide +kernel
  go_enter Try.func30, Try.ntmps30
  go_wp2
  go_ret
  exact ⟨ret_w (by rw [shrW x 13 13 8192 rfl rfl, shlW x 19 19 524288 rfl rfl, orW]; show _ = ((x >>> 13 ||| x <<< 19).toNat : Int); rw [UInt32.or_comm]), rfl⟩
set_option maxHeartbeats 400000 in
theorem rot_13 (x : UInt32) (w : World) : Calls Try.prog 37 #[.int .u32 (x.toNat : Int), .int .u64 13] w fun e w' => e = .returned (.int .u32 ((rotr x 13).toNat : Int)) ∧ w = w' := by
  go_enter Try.func37, Try.ntmps37
  go_wp2
  go_ret
  exact ⟨ret_w (by rw [shrW x 13 13 8192 rfl rfl, shlW x 19 19 524288 rfl rfl, orW]; rfl), rfl⟩
set_option maxHeartbeats 400000 in
theorem right_17 (x : UInt32) (w : World) : Calls Try.prog 30 #[.int .u32 (x.toNat : Int), .int .i64 17] w fun e w' => e = .returned (.int .u32 ((rotr x 17).toNat : Int)) ∧ w = w' := by
  have ha : bits .and .u64 (IntKind.u64.wrap (-17)) 31 = 15 := by decide +kernel
  go_enter Try.func30, Try.ntmps30
  go_wp2
  go_ret
  exact ⟨ret_w (by rw [shrW x 17 17 131072 rfl rfl, shlW x 15 15 32768 rfl rfl, orW]; show _ = ((x >>> 17 ||| x <<< 15).toNat : Int); rw [UInt32.or_comm]), rfl⟩
set_option maxHeartbeats 400000 in
theorem rot_17 (x : UInt32) (w : World) : Calls Try.prog 37 #[.int .u32 (x.toNat : Int), .int .u64 17] w fun e w' => e = .returned (.int .u32 ((rotr x 17).toNat : Int)) ∧ w = w' := by
  go_enter Try.func37, Try.ntmps37
  go_wp2
  go_ret
  exact ⟨ret_w (by rw [shrW x 17 17 131072 rfl rfl, shlW x 15 15 32768 rfl rfl, orW]; rfl), rfl⟩
set_option maxHeartbeats 400000 in
theorem right_18 (x : UInt32) (w : World) : Calls Try.prog 30 #[.int .u32 (x.toNat : Int), .int .i64 18] w fun e w' => e = .returned (.int .u32 ((rotr x 18).toNat : Int)) ∧ w = w' := by
  have ha : bits .and .u64 (IntKind.u64.wrap (-18)) 31 = 14 := by decide +kernel
  go_enter Try.func30, Try.ntmps30
  go_wp2
  go_ret
  exact ⟨ret_w (by rw [shrW x 18 18 262144 rfl rfl, shlW x 14 14 16384 rfl rfl, orW]; show _ = ((x >>> 18 ||| x <<< 14).toNat : Int); rw [UInt32.or_comm]), rfl⟩
set_option maxHeartbeats 400000 in
theorem rot_18 (x : UInt32) (w : World) : Calls Try.prog 37 #[.int .u32 (x.toNat : Int), .int .u64 18] w fun e w' => e = .returned (.int .u32 ((rotr x 18).toNat : Int)) ∧ w = w' := by
  go_enter Try.func37, Try.ntmps37
  go_wp2
  go_ret
  exact ⟨ret_w (by rw [shrW x 18 18 262144 rfl rfl, shlW x 14 14 16384 rfl rfl, orW]; rfl), rfl⟩
set_option maxHeartbeats 400000 in
theorem right_19 (x : UInt32) (w : World) : Calls Try.prog 30 #[.int .u32 (x.toNat : Int), .int .i64 19] w fun e w' => e = .returned (.int .u32 ((rotr x 19).toNat : Int)) ∧ w = w' := by
  have ha : bits .and .u64 (IntKind.u64.wrap (-19)) 31 = 13 := by decide +kernel
  go_enter Try.func30, Try.ntmps30
  go_wp2
  go_ret
  exact ⟨ret_w (by rw [shrW x 19 19 524288 rfl rfl, shlW x 13 13 8192 rfl rfl, orW]; show _ = ((x >>> 19 ||| x <<< 13).toNat : Int); rw [UInt32.or_comm]), rfl⟩
set_option maxHeartbeats 400000 in
theorem rot_19 (x : UInt32) (w : World) : Calls Try.prog 37 #[.int .u32 (x.toNat : Int), .int .u64 19] w fun e w' => e = .returned (.int .u32 ((rotr x 19).toNat : Int)) ∧ w = w' := by
  go_enter Try.func37, Try.ntmps37
  go_wp2
  go_ret
  exact ⟨ret_w (by rw [shrW x 19 19 524288 rfl rfl, shlW x 13 13 8192 rfl rfl, orW]; rfl), rfl⟩
set_option maxHeartbeats 400000 in
theorem right_22 (x : UInt32) (w : World) : Calls Try.prog 30 #[.int .u32 (x.toNat : Int), .int .i64 22] w fun e w' => e = .returned (.int .u32 ((rotr x 22).toNat : Int)) ∧ w = w' := by
  have ha : bits .and .u64 (IntKind.u64.wrap (-22)) 31 = 10 := by decide +kernel
  go_enter Try.func30, Try.ntmps30
  go_wp2
  go_ret
  exact ⟨ret_w (by rw [shrW x 22 22 4194304 rfl rfl, shlW x 10 10 1024 rfl rfl, orW]; show _ = ((x >>> 22 ||| x <<< 10).toNat : Int); rw [UInt32.or_comm]), rfl⟩
set_option maxHeartbeats 400000 in
theorem rot_22 (x : UInt32) (w : World) : Calls Try.prog 37 #[.int .u32 (x.toNat : Int), .int .u64 22] w fun e w' => e = .returned (.int .u32 ((rotr x 22).toNat : Int)) ∧ w = w' := by
  go_enter Try.func37, Try.ntmps37
  go_wp2
  go_ret
  exact ⟨ret_w (by rw [shrW x 22 22 4194304 rfl rfl, shlW x 10 10 1024 rfl rfl, orW]; rfl), rfl⟩
set_option maxHeartbeats 400000 in
theorem right_25 (x : UInt32) (w : World) : Calls Try.prog 30 #[.int .u32 (x.toNat : Int), .int .i64 25] w fun e w' => e = .returned (.int .u32 ((rotr x 25).toNat : Int)) ∧ w = w' := by
  have ha : bits .and .u64 (IntKind.u64.wrap (-25)) 31 = 7 := by decide +kernel
  go_enter Try.func30, Try.ntmps30
  go_wp2
  go_ret
  exact ⟨ret_w (by rw [shrW x 25 25 33554432 rfl rfl, shlW x 7 7 128 rfl rfl, orW]; show _ = ((x >>> 25 ||| x <<< 7).toNat : Int); rw [UInt32.or_comm]), rfl⟩
set_option maxHeartbeats 400000 in
theorem rot_25 (x : UInt32) (w : World) : Calls Try.prog 37 #[.int .u32 (x.toNat : Int), .int .u64 25] w fun e w' => e = .returned (.int .u32 ((rotr x 25).toNat : Int)) ∧ w = w' := by
  go_enter Try.func37, Try.ntmps37
  go_wp2
  go_ret
  exact ⟨ret_w (by rw [shrW x 25 25 33554432 rfl rfl, shlW x 7 7 128 rfl rfl, orW]; rfl), rfl⟩

/-- As a drawn region that only reads asks it. -/
theorem quiet_left {f : Nat} {args : Array Value} {w : World} {n : Nat} {v : Value} (h : Calls Try.prog f args (w.drewN n) fun e w' => e = .returned v ∧ w.drewN n = w') : Calls Try.prog f args (w.drewN n) fun e w'' => e = .returned v ∧ ∃ m, w'' = w.drewN m :=
  h.mono fun _ _ h => ⟨h.1, n, h.2.symm⟩
theorem quiet_add_left {f : Nat} {args : Array Value} {w : World} {a n : Nat} {v : Value} (h : Calls Try.prog f args (w.drewN (a + n)) fun e w' => e = .returned v ∧ w.drewN (a + n) = w') : Calls Try.prog f args (w.drewN (a + n)) fun e w'' => e = .returned v ∧ ∃ m, w'' = w.drewN (a + m) :=
  h.mono fun _ _ h => ⟨h.1, n, h.2.symm⟩
/-- As a drawn region asks it. -/
theorem still_of {f : Nat} {args : Array Value} {w : World} {v : Value} (h : Calls Try.prog f args w fun e w' => e = .returned v ∧ w = w') : Calls Try.prog f args w fun e w' => e = .returned v ∧ w' = w := h.mono fun _ _ h => ⟨h.1, h.2.symm⟩

end Go.Proofs.Ytnkbkkbpmjemiaa

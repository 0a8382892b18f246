/-
  crc.Sum, walked: it gives the sum of Crc.sum and touches no memory that was there. Condition: a length that fits int.
-/
import Derived.Test.YtinkhlmjeimdcaaRows
import Derived.Test.YtinkhlmjeimdcaaMath
import Derived.WalkKit
import Derived.WalkLawsBesides
import Derived.WalkSpells
import Derived.Laws.IdiomStrings
import Derived.Lib.Hide
import Derived.Outline
namespace Go.Proofs.Ytinkhlmjeimdcaa
open Go.RowKit

/-- What '[]byte(s)' gives, behind names. -/
theorem bytes_of (s : ByteArray) (w : World) : ∃ (cap : Nat) (W : World),
    (convert 9 32 (.string s)).run Try.prog w = .ok (.slice (some ⟨w.heap.size, 0, none⟩) s.size cap) W ∧
    (∀ k (h : k < s.size), W.cell? ⟨w.heap.size, k, none⟩ = some (.int .u8 (s[k].toNat : Int))) ∧ Below w.heap.size w W := by
  refine ⟨_, _, run_bytes_of_string (P := Try.prog) w 9 32 5 s Try.underlying9 Try.underlying32 Try.underlying5, ?_, ?_⟩
  · intro k h
    have e : w.heap.size = w.drew.heap.size := rfl
    rw [e, World.cell?_alloc_mark, bytesRow_at s _ k h]
    rfl
  · exact ((Below.refl _ _).drew).alloc (by simp) _

theorem wrap_toNat (d : BitVec 32) : IntKind.u32.wrap (d.toNat : Int) = (d.toNat : Int) := by
  have := d.isLt
  rw [IntKind.wrap_u32']; omega
theorem bits_xor32 (x y : Int) : bits BinOp.xor .u32 x y = ((BitVec.ofInt 32 x ^^^ BitVec.ofInt 32 y).toNat : Int) := wrap_toNat _
theorem bits_and32 (x y : Int) : bits BinOp.and .u32 x y = ((BitVec.ofInt 32 x &&& BitVec.ofInt 32 y).toNat : Int) := wrap_toNat _
theorem ofInt_toNat (d : BitVec 32) : BitVec.ofInt 32 (d.toNat : Int) = d := by
  rw [BitVec.ofInt_natCast, BitVec.ofNat_toNat]; simp
theorem ofInt_half (d : BitVec 32) : BitVec.ofInt 32 ((d.toNat : Int) / 2) = d >>> 1 := by
  have e : ((d.toNat : Int) / 2) = ((d.toNat / 2 : Nat) : Int) := by omega
  rw [e, BitVec.ofInt_natCast]
  apply BitVec.eq_of_toNat_eq
  have := d.isLt
  rw [BitVec.toNat_ofNat, BitVec.toNat_ushiftRight, Nat.shiftRight_eq_div_pow]
  omega
theorem ofInt_neg (d : BitVec 32) : BitVec.ofInt 32 (-(d.toNat : Int) % 4294967296) = -d := by
  apply BitVec.eq_of_toNat_eq
  have := d.isLt
  rw [BitVec.toNat_ofInt, BitVec.toNat_neg]
  omega
theorem first_xor (c : BitVec 32) (b : UInt8) : Value.int .u32 (bits BinOp.xor IntKind.u32 (c.toNat : Int) ((b.toNat : Int) % 4294967296)) = .int .u32 ((Crc.bits 0 (c ^^^ BitVec.ofNat 32 b.toNat)).toNat : Int) := by
  have e : ((b.toNat : Int) % 4294967296) = (b.toNat : Int) := by have := b.toNat_lt; omega
  rw [e, bits_xor32, ofInt_toNat, BitVec.ofInt_natCast]; rfl
theorem bit_walk (c : BitVec 32) : Value.int .u32 (bits BinOp.xor IntKind.u32 ((c.toNat : Int) / 2) (bits BinOp.and IntKind.u32 3988292384 (-bits BinOp.and IntKind.u32 (c.toNat : Int) 1 % 4294967296))) = .int .u32 ((Crc.bit c).toNat : Int) := by
  rw [bits_xor32, bits_and32 3988292384, bits_and32 (c.toNat : Int) 1, ofInt_neg, ofInt_half, ofInt_toNat, ofInt_toNat]
  rfl
theorem last_not (s : ByteArray) : Ending.returned (.int .u32 (bits BinOp.xor IntKind.u32 IntKind.u32.max ((Crc.run (4294967295#32) (s.data.toList.take s.size)).toNat : Int))) = .returned (.int .u32 ((Crc.sum s.data.toList).toNat : Int)) := by
  rw [List.take_of_length_le (by simp), bits_xor32, ofInt_toNat]
  have e : BitVec.ofInt 32 IntKind.u32.max = BitVec.allOnes 32 := by decide
  rw [e, BitVec.allOnes_xor]
  rfl
theorem take_snoc (s : ByteArray) (k : Nat) (h : k < s.size) : s.data.toList.take (k + 1) = s.data.toList.take k ++ [s[k]] := by
  rw [List.take_succ_eq_append_getElem (by simpa using h)]; rfl

set_option maxHeartbeats 400000 in
theorem sum_any (s : ByteArray) (w : World) (hs : s.size ≤ maxLen) :
    Calls Try.prog 7 #[.string s] w fun e w' => e = .returned (.int .u32 ((Crc.sum s.data.toList).toNat : Int)) ∧ Below w.heap.size w w' := by
  obtain ⟨cap, W, hconv, hcell, hb⟩ := bytes_of s w
  have HC := Lib.hid hcell; clear hcell
  unfold maxLen at hs
  go_enter Try.func7, Try.ntmps7
  go_wp2
  go_loop [3, 9] (fun c i => ∃ k : Nat, k ≤ s.size ∧ i = .int .i64 k ∧ c = .int .u32 ((Crc.run 0xFFFFFFFF#32 (s.data.toList.take k)).toNat : Int)) (fun _ i => s.size - (intOf i).toNat)
  case atStart => exact ⟨0, Nat.zero_le _, rfl, rfl⟩
  case round =>
    obtain ⟨k, hk, rfl, rfl⟩ := hrel
    by_cases hlt : k < s.size
    · have hc := HC.out k hlt
      go_wp2
      go_loop [3, 17] (fun c i => ∃ j : Nat, j ≤ 8 ∧ i = .int .i64 j ∧ c = .int .u32 ((Crc.bits j (Crc.run 0xFFFFFFFF#32 (s.data.toList.take k) ^^^ BitVec.ofNat 32 s[k].toNat)).toNat : Int)) (fun _ i => 8 - (intOf i).toNat)
      case atStart => exact ⟨0, by omega, rfl, first_xor _ _⟩
      case round =>
        obtain ⟨j, hj, rfl, rfl⟩ := hrel
        by_cases hlj : j < 8
        · go_wp2
          go_round
          case rel => exact ⟨j + 1, by omega, by go_num, bit_walk _⟩
          case measure => simp [intOf]; omega
        · obtain rfl : j = 8 := by omega
          go_wp2
          go_round
          case rel => exact ⟨k + 1, by omega, by go_num, by rw [take_snoc s k hlt, Crc.run_snoc]; rfl⟩
          case measure => simp [intOf]; omega
    · obtain rfl : k = s.size := by omega
      go_wp2
      go_ret
      exact ⟨last_not s, hb⟩
end Go.Proofs.Ytinkhlmjeimdcaa

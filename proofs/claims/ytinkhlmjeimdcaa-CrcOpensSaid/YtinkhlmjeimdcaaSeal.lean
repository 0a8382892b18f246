/-
  crc.Seal and the reference's Sum, walked: each gives what Crc says. Condition: a length that fits int.
-/
import Derived.Test.YtinkhlmjeimdcaaSum
namespace Go.Proofs.Ytinkhlmjeimdcaa
open Go.RowKit

def Crc.tailB (c : BitVec 32) : ByteArray := ⟨(Crc.tail c).toArray⟩
def Crc.sealB (s : ByteArray) : ByteArray := s ++ Crc.tailB (Crc.sum s.data.toList)
theorem Crc.tailB_size (c : BitVec 32) : (Crc.tailB c).size ≤ 4 := Nat.le_of_eq rfl
theorem Crc.sealB_list (s : ByteArray) : (Crc.sealB s).data.toList = Crc.sealed s.data.toList := by
  unfold Crc.sealB Crc.sealed Crc.tailB
  rw [ByteArray.data_append]; simp
theorem Crc.sealB_size (s : ByteArray) : (Crc.sealB s).size = s.size + 4 := by
  unfold Crc.sealB
  rw [ByteArray.size_append]; rfl

theorem byte_of (n : Nat) (v : Int) (h : v = ((n % 256 : Nat) : Int)) : Value.int .u8 v = .int .u8 ((UInt8.ofNat n).toNat : Int) := by
  subst h; simp

/-- The four bytes made a text. -/
theorem tail_text (c : BitVec 32) (W : World) :
    (convert 32 9 (.slice (some ⟨W.heap.size, 0, none⟩) 4 4)).run Try.prog (W.alloc (.cells #[.int .u8 ((c.toNat : Int) / 16777216), .int .u8 ((c.toNat : Int) / 65536 % 256), .int .u8 ((c.toNat : Int) / 256 % 256), .int .u8 ((c.toNat : Int) % 256)] 5)) =
      .ok (.string (Crc.tailB c)) (W.alloc (.cells #[.int .u8 ((c.toNat : Int) / 16777216), .int .u8 ((c.toNat : Int) / 65536 % 256), .int .u8 ((c.toNat : Int) / 256 % 256), .int .u8 ((c.toNat : Int) % 256)] 5)) := by
  have hc := c.isLt
  refine run_convert_bytes_back (P := Try.prog) _ 32 9 5 ⟨W.heap.size, 0, none⟩ 4 (Crc.tail c) Try.underlying32 Try.underlying5 Try.underlying9 ?_
  intro j hj
  have h4 : j < 4 := hj
  rw [Addr.add_lit, Nat.zero_add, World.cell?_alloc_mark]
  match j, h4 with
  | 0, _ => exact congrArg some (byte_of (c.toNat / 16777216) _ (by omega))
  | 1, _ => exact congrArg some (byte_of (c.toNat / 65536) _ (by omega))
  | 2, _ => exact congrArg some (byte_of (c.toNat / 256) _ (by omega))
  | 3, _ => exact congrArg some (byte_of c.toNat _ (by omega))

set_option maxHeartbeats 400000 in
theorem seal_any (s : ByteArray) (w : World) (hs : s.size + 4 ≤ maxLen) :
    Calls Try.prog 9 #[.string s] w fun e w' => e = .returned (.string (Crc.sealB s)) ∧ Below w.heap.size w w' := by
  unfold maxLen at hs
  go_enter Try.func9, Try.ntmps9
  go_wp2_with fail
  refine (sum_any s _ (by unfold maxLen; omega)).mono ?_
  rintro e W ⟨rfl, hb⟩
  have hfin : Crc.sealB s = s ++ Crc.tailB (Crc.sum s.data.toList) := by unfold Crc.sealB; rfl
  have HF : Hid _ := Lib.hid hfin
  clear hfin
  generalize Crc.sum s.data.toList = c at *
  have ht := tail_text c W
  have h4 := Crc.tailB_size c
  go_wp2_with fail
  go_ret
  exact ⟨by rw [HF.out]; rfl, hb.alloc (by have := hb.size; omega) _⟩

theorem odd_walk {c : BitVec 32} (h : c &&& 1#32 = 1#32) : (bits BinOp.and IntKind.u32 (c.toNat : Int) 1 == 1) = true := by
  have e : BitVec.ofInt 32 1 = 1#32 := rfl
  rw [bits_and32, ofInt_toNat, e, h]; rfl
theorem even_walk {c : BitVec 32} (h : ¬ c &&& 1#32 = 1#32) : (bits BinOp.and IntKind.u32 (c.toNat : Int) 1 == 1) = false := by
  have e : BitVec.ofInt 32 1 = 1#32 := rfl
  have z : c &&& 1#32 = 0#32 := (Crc.and1 c).resolve_right h
  rw [bits_and32, ofInt_toNat, e, z]; rfl
theorem rbit_one {c : BitVec 32} (h : c &&& 1#32 = 1#32) : Value.int .u32 (bits BinOp.xor IntKind.u32 ((c.toNat : Int) / 2) 3988292384) = .int .u32 ((Crc.bit c).toNat : Int) := by
  rw [Crc.bit_if, if_pos h, bits_xor32, ofInt_half]
  rfl
theorem rbit_none {c : BitVec 32} (h : ¬ c &&& 1#32 = 1#32) : Value.int .u32 ((c.toNat : Int) / 2) = .int .u32 ((Crc.bit c).toNat : Int) := by
  rw [Crc.bit_if, if_neg h, BitVec.toNat_ushiftRight, Nat.shiftRight_eq_div_pow]
  congr 1
theorem last_not' (s : ByteArray) : Ending.returned (.int .u32 (bits BinOp.xor IntKind.u32 ((Crc.run (4294967295#32) (s.data.toList.take s.size)).toNat : Int) 4294967295)) = .returned (.int .u32 ((Crc.sum s.data.toList).toNat : Int)) := by
  rw [List.take_of_length_le (by simp), bits_xor32, ofInt_toNat]
  have e : BitVec.ofInt 32 4294967295 = BitVec.allOnes 32 := by decide
  rw [e, BitVec.xor_allOnes]
  rfl

set_option maxHeartbeats 400000 in
/-- The reference's sum. -/
theorem rsum_any (s : ByteArray) (w : World) (hs : s.size ≤ maxLen) :
    Calls Try.prog 8 #[.string s] w fun e w' => e = .returned (.int .u32 ((Crc.sum s.data.toList).toNat : Int)) ∧ w = w' := by
  unfold maxLen at hs
  go_enter Try.func8, Try.ntmps8
  go_wp2
  go_loop [3, 4, 5, 6] (fun c i _ _ => ∃ k : Nat, k ≤ s.size ∧ i = .int .i64 k ∧ c = .int .u32 ((Crc.run 0xFFFFFFFF#32 (s.data.toList.take k)).toNat : Int)) (fun _ i _ _ => s.size - (intOf i).toNat)
  case atStart => exact ⟨0, Nat.zero_le _, rfl, rfl⟩
  case round =>
    obtain ⟨k, hk, rfl, rfl⟩ := hrel
    by_cases hlt : k < s.size
    · go_wp2
      go_loop [3, 5, 6] (fun c i _ => ∃ j : Nat, j ≤ 8 ∧ i = .int .i64 j ∧ c = .int .u32 ((Crc.bits j (Crc.run 0xFFFFFFFF#32 (s.data.toList.take k) ^^^ BitVec.ofNat 32 s[k].toNat)).toNat : Int)) (fun _ i _ => 8 - (intOf i).toNat)
      case atStart => exact ⟨0, by omega, rfl, first_xor _ _⟩
      case round =>
        obtain ⟨j, hj, rfl, rfl⟩ := hrel
        by_cases hlj : j < 8
        · generalize Crc.run 0xFFFFFFFF#32 (s.data.toList.take k) ^^^ BitVec.ofNat 32 s[k].toNat = x
          by_cases hb : Crc.bits j x &&& 1#32 = 1#32
          · have ht := odd_walk hb
            have H := Lib.hid hb; clear hb
            go_wp2
            go_round
            case rel => exact ⟨j + 1, by omega, by go_num, rbit_one H.out⟩
            case measure => simp [intOf]; omega
          · have ht := even_walk hb
            have H := Lib.hid hb; clear hb
            go_wp2
            go_round
            case rel => exact ⟨j + 1, by omega, by go_num, rbit_none H.out⟩
            case measure => simp [intOf]; omega
        · obtain rfl : j = 8 := by omega
          go_wp2
          go_round
          case rel => exact ⟨k + 1, by omega, by go_num, by rw [take_snoc s k hlt, Crc.run_snoc]; rfl⟩
          case measure => simp [intOf]; omega
    · obtain rfl : k = s.size := by omega
      go_wp2
      go_ret
      exact ⟨last_not' s, rfl⟩
end Go.Proofs.Ytinkhlmjeimdcaa

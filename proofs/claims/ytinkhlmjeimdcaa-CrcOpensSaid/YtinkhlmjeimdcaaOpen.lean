/-
  crc.Open, the reference's Seal and Open, and awake, walked: each gives what Crc says. Condition: a length that fits int.
-/
import Derived.Test.YtinkhlmjeimdcaaSeal
namespace Go.Proofs.Ytinkhlmjeimdcaa
open Go.RowKit

set_option maxHeartbeats 400000 in
/-- The reference's Seal. -/
theorem rseal_any (s : ByteArray) (w : World) (hs : s.size + 4 ≤ maxLen) :
    Calls Try.prog 10 #[.string s] w fun e w' => e = .returned (.string (Crc.sealB s)) ∧ Below w.heap.size w w' := by
  unfold maxLen at hs
  go_enter Try.func10, Try.ntmps10
  go_wp2_with fail
  refine (rsum_any s _ (by unfold maxLen; omega)).mono ?_
  rintro e W ⟨rfl, rfl⟩
  have hfin : Crc.sealB s = s ++ Crc.tailB (Crc.sum s.data.toList) := by unfold Crc.sealB; rfl
  have HF : Hid _ := Lib.hid hfin
  clear hfin
  generalize Crc.sum s.data.toList = c at *
  have ht := tail_text c w
  have h4 := Crc.tailB_size c
  go_wp2_with fail
  go_ret
  exact ⟨by rw [HF.out]; rfl, (Below.refl _ _).alloc (by omega) _⟩

/-- What Open answers. -/
def Crc.openB (s : ByteArray) : ByteArray × Int :=
  if s.size < 4 then (⟨#[]⟩, 2) else if Crc.sealB (s.extract 0 (s.size - 4)) = s then (s.extract 0 (s.size - 4), 0) else (⟨#[]⟩, 4)

theorem bytes_ne {x y : ByteArray} (h : ¬ x = y) : (x.toList == y.toList) = false := by
  rw [beq_eq_false_iff_ne]
  intro e
  rw [ByteArray.toList_eq, ByteArray.toList_eq] at e
  exact h (ByteArray.ext (Array.toList_inj.mp e))


set_option maxHeartbeats 400000 in
theorem open_any (s : ByteArray) (w : World) (hs : s.size ≤ maxLen) :
    Calls Try.prog 12 #[.string s] w fun e w' => e = .returned (.tuple #[.string (Crc.openB s).1, .int .i64 (Crc.openB s).2]) ∧ Below w.heap.size w w' := by
  unfold maxLen at hs
  by_cases h4 : s.size < 4
  · have hfin : Crc.openB s = (⟨#[]⟩, 2) := by unfold Crc.openB; rw [if_pos h4]
    have HF : Hid _ := Lib.hid hfin
    clear hfin
    go_enter Try.func12, Try.ntmps12
    go_wp2_with fail
    go_ret2
    exact ⟨by rw [HF.out]; rfl, Below.refl _ _⟩
  · by_cases he : Crc.sealB (s.extract 0 (s.size - 4)) = s
    · have hfin : Crc.openB s = (s.extract 0 (s.size - 4), 0) := by unfold Crc.openB; rw [if_neg h4, if_pos he]
      have HF : Hid _ := Lib.hid hfin
      have HE : Hid _ := Lib.hid he
      clear hfin he
      go_enter Try.func12, Try.ntmps12
      go_wp2_with fail
      refine (seal_any _ _ (by unfold maxLen; rw [ByteArray.size_extract]; omega)).mono ?_
      rintro e W ⟨rfl, hb⟩
      rw [HE.out]
      go_wp2_with fail
      go_ret2
      exact ⟨by rw [HF.out]; rfl, hb⟩
    · have hfin : Crc.openB s = (⟨#[]⟩, 4) := by unfold Crc.openB; rw [if_neg h4, if_neg he]
      have HF : Hid _ := Lib.hid hfin
      clear hfin
      have hne := bytes_ne he
      clear he
      go_enter Try.func12, Try.ntmps12
      go_wp2_with fail
      refine (seal_any _ _ (by unfold maxLen; rw [ByteArray.size_extract]; omega)).mono ?_
      rintro e W ⟨rfl, hb⟩
      go_wp2_with fail
      go_ret2
      exact ⟨by rw [HF.out]; rfl, hb⟩

set_option maxHeartbeats 400000 in
theorem ropen_any (s : ByteArray) (w : World) (hs : s.size ≤ maxLen) :
    Calls Try.prog 13 #[.string s] w fun e w' => e = .returned (.tuple #[.string (Crc.openB s).1, .int .i64 (Crc.openB s).2]) ∧ Below w.heap.size w w' := by
  unfold maxLen at hs
  by_cases h4 : s.size < 4
  · have hfin : Crc.openB s = (⟨#[]⟩, 2) := by unfold Crc.openB; rw [if_pos h4]
    have HF : Hid _ := Lib.hid hfin
    clear hfin
    go_enter Try.func13, Try.ntmps13
    go_wp2_with fail
    go_ret2
    exact ⟨by rw [HF.out]; rfl, Below.refl _ _⟩
  · by_cases he : Crc.sealB (s.extract 0 (s.size - 4)) = s
    · have hfin : Crc.openB s = (s.extract 0 (s.size - 4), 0) := by unfold Crc.openB; rw [if_neg h4, if_pos he]
      have HF : Hid _ := Lib.hid hfin
      have HE : Hid _ := Lib.hid he
      clear hfin he
      go_enter Try.func13, Try.ntmps13
      go_wp2_with fail
      refine (rseal_any _ _ (by unfold maxLen; rw [ByteArray.size_extract]; omega)).mono ?_
      rintro e W ⟨rfl, hb⟩
      rw [HE.out]
      go_wp2_with fail
      go_ret2
      exact ⟨by rw [HF.out]; rfl, hb⟩
    · have hfin : Crc.openB s = (⟨#[]⟩, 4) := by unfold Crc.openB; rw [if_neg h4, if_neg he]
      have HF : Hid _ := Lib.hid hfin
      clear hfin
      have hne := bytes_ne he
      clear he
      go_enter Try.func13, Try.ntmps13
      go_wp2_with fail
      refine (rseal_any _ _ (by unfold maxLen; rw [ByteArray.size_extract]; omega)).mono ?_
      rintro e W ⟨rfl, hb⟩
      go_wp2_with fail
      go_ret2
      exact ⟨by rw [HF.out]; rfl, hb⟩

theorem awake1 : Crc.openB (Crc.sealB ⟨#[97, 98]⟩) = (⟨#[97, 98]⟩, 0) := by decide +kernel
theorem awake2 : Crc.openB ⟨#[97, 98, 99]⟩ = (⟨#[]⟩, 2) := by decide +kernel
theorem awake3 : Crc.openB ⟨#[97, 98, 99, 100]⟩ = (⟨#[]⟩, 4) := by decide +kernel
theorem awake4 : ((Crc.sum (⟨#[49, 50, 51, 52, 53, 54, 55, 56, 57]⟩ : ByteArray).data.toList).toNat : Int) = 3421780262 := by decide +kernel
theorem awake5 : ((Crc.sum (⟨#[]⟩ : ByteArray).data.toList).toNat : Int) = 0 := by decide +kernel
theorem awake6 : Crc.sealB ⟨#[]⟩ = ⟨#[0, 0, 0, 0]⟩ := by decide +kernel

set_option maxHeartbeats 400000 in
theorem awake_any (w : World) : Calls Try.prog 11 #[] w fun e w' => e = .returned (.bool true) ∧ Below w.heap.size w w' := by
  go_enter Try.func11, Try.ntmps11
  go_wp2_with fail
  refine (seal_any _ _ (by decide)).mono ?_
  rintro e W1 ⟨rfl, hb1⟩
  go_wp2_with fail
  refine (open_any _ _ (by rw [Crc.sealB_size]; decide)).mono ?_
  rintro e W2 ⟨rfl, hb2⟩
  rw [awake1]
  go_wp2_with fail
  refine (open_any _ _ (by decide)).mono ?_
  rintro e W3 ⟨rfl, hb3⟩
  rw [awake2]
  go_wp2_with fail
  refine (open_any _ _ (by decide)).mono ?_
  rintro e W4 ⟨rfl, hb4⟩
  rw [awake3]
  go_wp2_with fail
  refine (sum_any _ _ (by decide)).mono ?_
  rintro e W5 ⟨rfl, hb5⟩
  rw [awake4]
  go_wp2_with fail
  refine (sum_any _ _ (by decide)).mono ?_
  rintro e W6 ⟨rfl, hb6⟩
  rw [awake5]
  go_wp2_with fail
  refine (seal_any _ _ (by decide)).mono ?_
  rintro e W7 ⟨rfl, hb7⟩
  rw [awake6]
  go_wp2_with fail
  go_ret
  exact ⟨rfl, hb1.trans ((hb2.trans ((hb3.trans ((hb4.trans ((hb5.trans ((hb6.trans (hb7.mono hb6.size)).mono hb5.size)).mono hb4.size)).mono hb3.size)).mono hb2.size)).mono hb1.size)⟩
end Go.Proofs.Ytinkhlmjeimdcaa

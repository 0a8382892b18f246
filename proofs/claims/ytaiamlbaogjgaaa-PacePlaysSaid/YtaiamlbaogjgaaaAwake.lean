/-
  awake of layer 21, walked: it returns true. No condition.
-/
import Derived.Test.YtaiamlbaogjgaaaWalks
namespace Go.Proofs.Ytaiamlbaogjgaaa
set_option linter.unusedVariables false
open Go.RowKit

/-- two calls, one behind the other. -/
theorem then_ {a b c : World} (h : Below a.heap.size a b) (k : Below b.heap.size b c) : Below a.heap.size a c := h.trans (k.mono h.size)

theorem Bk.nums {w : World} {g : Nat} {a b c a' b' c' : Int} (h : Bk w g a' b' c') (ha : a' = a) (hb : b' = b) (hc : c' = c) : Bk w g a b c := by
  subst ha hb hc; exact h
theorem own_le (g : Nat) {n : Nat} : ∀ k, k < n → k = g → g ≤ k := fun _ _ h => by omega
theorem m1 : Fl.milli 4602678819172646912 = 500 := by decide +kernel
theorem m2 : Fl.milli 13830554455654793216 = 0 := by decide +kernel
theorem m3 : Fl.milli 4656510908468559872 = 1000000 := by decide +kernel

set_option maxHeartbeats 400000 in
theorem awake_any (w : World) : Calls Try.prog 9 #[] w fun e w' => e = .returned (.bool true) ∧ Below w.heap.size w w' := by
  go_enter Try.func9, Try.ntmps9
  go_wp2_with fail
  refine (new_any 500 1 _).mono ?_
  rintro e W1 ⟨rfl, hk1, hz1, hq1⟩
  replace hk1 := hk1.nums (a := 500) (b := 1000) (c := 1000) (by decide) (by decide) (by decide)
  generalize hg : w.heap.size = g at *
  have HG := Lib.hid hg
  clear hg
  have HQ1 := Lib.hid hq1
  clear hq1
  go_wp2_with fail
  refine (take_any g 500 1000 1000 _ hk1 ⟨by decide, by decide, by decide, by decide, by decide, by decide⟩).mono ?_
  rintro e W2 ⟨rfl, hk2, hq2, hz2⟩
  rw [(by decide : enough 1000 = true)]
  replace hk2 := hk2.nums (a := 500) (b := 1000) (c := 0) rfl rfl (by decide)
  clear hk1 hz2
  go_wp2_with fail
  refine (take_any g 500 1000 0 _ hk2 ⟨by decide, by decide, by decide, by decide, by decide, by decide⟩).mono ?_
  rintro e W3 ⟨rfl, hk3, hq3, hz3⟩
  rw [(by decide : enough 0 = false)]
  replace hk3 := hk3.nums (a := 500) (b := 1000) (c := 0) rfl rfl (by decide)
  clear hk2 hz3
  go_wp2_with fail
  refine (tick_any g 500 1000 0 1 _ hk3 ⟨by decide, by decide, by decide, by decide, by decide, by decide⟩).mono ?_
  rintro e W4 ⟨rfl, hk4, hq4, hz4⟩
  replace hk4 := hk4.nums (a := 500) (b := 1000) (c := 500) rfl rfl (by decide)
  clear hk3 hz4
  go_wp2_with fail
  refine (take_any g 500 1000 500 _ hk4 ⟨by decide, by decide, by decide, by decide, by decide, by decide⟩).mono ?_
  rintro e W5 ⟨rfl, hk5, hq5, hz5⟩
  rw [(by decide : enough 500 = false)]
  replace hk5 := hk5.nums (a := 500) (b := 1000) (c := 500) rfl rfl (by decide)
  clear hk4 hz5
  go_wp2_with fail
  refine (level_any g 500 1000 500 _ hk5).mono ?_
  rintro e W105 ⟨rfl, rfl⟩
  go_wp2_with fail
  refine (tick_any g 500 1000 500 1 _ hk5 ⟨by decide, by decide, by decide, by decide, by decide, by decide⟩).mono ?_
  rintro e W6 ⟨rfl, hk6, hq6, hz6⟩
  replace hk6 := hk6.nums (a := 500) (b := 1000) (c := 1000) rfl rfl (by decide)
  clear hk5 hz6
  go_wp2_with fail
  refine (take_any g 500 1000 1000 _ hk6 ⟨by decide, by decide, by decide, by decide, by decide, by decide⟩).mono ?_
  rintro e W7 ⟨rfl, hk7, hq7, hz7⟩
  rw [(by decide : enough 1000 = true)]
  replace hk7 := hk7.nums (a := 500) (b := 1000) (c := 0) rfl rfl (by decide)
  clear hk6 hz7
  go_wp2_with fail
  refine (level_any g 500 1000 0 _ hk7).mono ?_
  rintro e W107 ⟨rfl, rfl⟩
  go_wp2_with fail
  refine (milli_any 4602678819172646912 _ (by decide)).mono ?_
  rintro e W200 ⟨rfl, rfl⟩
  rw [m1]
  go_wp2_with fail
  refine (milli_any 13830554455654793216 _ (by decide)).mono ?_
  rintro e W201 ⟨rfl, rfl⟩
  rw [m2]
  go_wp2_with fail
  refine (milli_any 4656510908468559872 _ (by decide)).mono ?_
  rintro e W202 ⟨rfl, rfl⟩
  rw [m3]
  go_wp2_with fail
  go_ret
  have hall : Keeps (fun k => g ≤ k) w W7 := (HQ1.out.mono fun _ _ h => h.elim).trans ((hq2.mono (own_le g)).trans ((hq3.mono (own_le g)).trans ((hq4.mono (own_le g)).trans ((hq5.mono (own_le g)).trans ((hq6.mono (own_le g)).trans (hq7.mono (own_le g)))))))
  exact ⟨rfl, HG.out ▸ hall.below (by rw [HG.out]; exact Nat.le_refl _) fun _ h => h⟩
end Go.Proofs.Ytaiamlbaogjgaaa

/-
  awake of layer 20, walked: it returns true. No condition.
-/
import Derived.Test.YtbnfjlchmpdgeaaInts
namespace Go.Proofs.Ytbnfjlchmpdgeaa
set_option linter.unusedVariables false
open Go.RowKit

theorem own_le (g : Nat) {n : Nat} : ∀ k, k < n → k = g → g ≤ k := fun _ _ h => by omega
def h1 : St := St.none.upd 2 5 5
theorem fits1 : Fits h1 := by
  have := Fits.hear Fits.none_ 2 5 5 (by decide)
  have e : hearS St.none 2 5 5 = h1 := rfl
  rwa [e] at this
theorem Rd.single (w : World) (x : Int) : Rd (w.alloc (.cells #[.int .i64 x] 3)) (.slice (some ⟨w.heap.size, 0, none⟩) 1 1) [x] :=
  ⟨_, 1, rfl, fun j hj => ⟨w.heap.size, 0, rfl, by
    have : j = 0 := by simp at hj; omega
    subst this
    exact (Blk.new w 3 #[.int .i64 x]).cell 0⟩⟩

set_option maxHeartbeats 800000 in
theorem awake_any (w : World) : Calls Try.prog 8 #[] w fun e w' => e = .returned (.bool true) ∧ Below w.heap.size w w' := by
  go_enter Try.func8, Try.ntmps8
  go_wp2_with fail
  refine (new_any 3 _).mono ?_
  rintro e W0 ⟨rfl, hk0, hz0, hq0⟩
  rw [(by decide : clamp 3 0 1048576 = 3)] at hk0
  generalize hg : w.heap.size = g at *
  have HG := Lib.hid hg
  clear hg
  have hall0 : Keeps (fun k => g ≤ k) w W0 := hq0.mono fun _ _ h => h.elim
  clear hq0
  go_wp2_with fail
  refine (hear_any g 3 St.none Fits.none_ 2 5 5 _ hk0).mono ?_
  rintro e W1 ⟨rfl, hk1, hq1⟩
  rw [(by decide : hearB St.none 2 5 5 = true)]
  rw [(rfl : hearS St.none 2 5 5 = h1)] at hk1
  have hall1 := hall0.trans (hq1.mono (own_le g))
  clear hk0 hq1 hall0
  go_wp2_with fail
  refine (hear_any g 3 h1 fits1 2 4 9 _ hk1).mono ?_
  rintro e W2 ⟨rfl, hk2, hq2⟩
  rw [(by decide : hearB h1 2 4 9 = false)]
  rw [(rfl : hearS h1 2 4 9 = h1)] at hk2
  have hall2 := hall1.trans (hq2.mono (own_le g))
  clear hk1 hq2 hall1
  go_wp2_with fail
  refine (hear_any g 3 h1 fits1 8 0 0 _ hk2).mono ?_
  rintro e W3 ⟨rfl, hk3, hq3⟩
  rw [(by decide : hearB h1 8 0 0 = false)]
  rw [(rfl : hearS h1 8 0 0 = h1)] at hk3
  have hall3 := hall2.trans (hq3.mono (own_le g))
  clear hk2 hq3 hall2
  go_wp2_with fail
  refine (hear_any g 3 h1 fits1 1 0 (-1) _ hk3).mono ?_
  rintro e W4 ⟨rfl, hk4, hq4⟩
  rw [(by decide : hearB h1 1 0 (-1) = false)]
  rw [(rfl : hearS h1 1 0 (-1) = h1)] at hk4
  have hall4 := hall3.trans (hq4.mono (own_le g))
  clear hk3 hq4 hall3
  go_wp2_with fail
  refine (alive_any g 3 h1 fits1 2 8 _ hk4).mono ?_
  rintro e W5 ⟨rfl, hb5⟩
  rw [(by decide : aliveB 3 h1 2 8 = true)]
  have hk5 : Mem W5 g 3 h1 := hk4.kept (Keeps.of_below (S := fun _ => False) hb5) fun h => h
  have hall5 := hall4.trans (Keeps.of_below hb5)
  clear hk4 hb5 hall4
  go_wp2_with fail
  refine (alive_any g 3 h1 fits1 2 9 _ hk5).mono ?_
  rintro e W6 ⟨rfl, hb6⟩
  rw [(by decide : aliveB 3 h1 2 9 = false)]
  have hk6 : Mem W6 g 3 h1 := hk5.kept (Keeps.of_below (S := fun _ => False) hb6) fun h => h
  have hall6 := hall5.trans (Keeps.of_below hb6)
  clear hk5 hb6 hall5
  go_wp2_with fail
  refine (alive_any g 3 h1 fits1 2 4 _ hk6).mono ?_
  rintro e W7 ⟨rfl, hb7⟩
  rw [(by decide : aliveB 3 h1 2 4 = false)]
  have hk7 : Mem W7 g 3 h1 := hk6.kept (Keeps.of_below (S := fun _ => False) hb7) fun h => h
  have hall7 := hall6.trans (Keeps.of_below hb7)
  clear hk6 hb7 hall6
  go_wp2_with fail
  refine (inc_any g 3 h1 2 _ hk7).mono ?_
  rintro e W8 ⟨rfl, hb8⟩
  rw [(by decide : incA h1 2 = 5)]
  have hk8 : Mem W8 g 3 h1 := hk7.kept (Keeps.of_below (S := fun _ => False) hb8) fun h => h
  have hall8 := hall7.trans (Keeps.of_below hb8)
  clear hk7 hb8 hall7
  go_wp2_with fail
  refine (inc_any g 3 h1 1 _ hk8).mono ?_
  rintro e W9 ⟨rfl, hb9⟩
  rw [(by decide : incA h1 1 = -1)]
  have hk9 : Mem W9 g 3 h1 := hk8.kept (Keeps.of_below (S := fun _ => False) hb9) fun h => h
  have hall9 := hall8.trans (Keeps.of_below hb9)
  clear hk8 hb9 hall8
  go_wp2_with fail
  refine (all_any g 3 h1 fits1 6 _ hk9).mono ?_
  rintro e V ⟨v, rfl, hown, hbv⟩
  rw [(by decide : allA 3 h1 6 = [2])] at hown
  have hrd := (hown.below ((Below.refl V.heap.size V).alloc (Nat.le_refl _) (.cells #[.int .i64 2] 3))).rd
  have hallv := (hall9.trans (Keeps.of_below hbv)).alloc (.cells #[.int .i64 2] 3)
  have HRD := Lib.hid hrd
  have HALL := Lib.hid hallv
  clear hown hrd hallv hbv hk9 hall9
  go_wp2_with fail
  refine (ints_any _ _ [2] [2] _ HRD.out (Rd.single V 2) (by decide) (by decide)).mono ?_
  rintro e V2 ⟨rfl, n, rfl⟩
  rw [(by decide : same [2] [2] = true)]
  go_wp2_with fail
  go_ret
  exact ⟨rfl, HG.out ▸ (HALL.out.drewN n).below (by rw [HG.out]; exact Nat.le_refl _) fun _ h => h⟩
end Go.Proofs.Ytbnfjlchmpdgeaa

/-
  The walks of Alive and Hear of package members. Conditions: what is noted fits int and a moment.
-/
import Derived.Test.YtbnfjlchmpdgeaaWalks
namespace Go.Proofs.Ytbnfjlchmpdgeaa
set_option linter.unusedVariables false
open Go.RowKit

/-- Whether what is noted is of one that is alive. -/
def aliveX (t : Int) (x : Option (Int × Int)) (b : Int) : Bool := x.isSome && momB b && decide (nowI x ≤ b) && decide (b - nowI x ≤ t)
theorem alive_eq (t : Int) (h : St) (n b : Int) : aliveB t h n b = aliveX t (look h n) b := by
  unfold aliveB aliveX look
  cases isB n <;> simp

theorem moment_at {b : Int} {m : Bool} (hm : Hid (momB b = m)) (w : World) : Calls Try.prog 25 #[.int .i64 b] w fun e w' => e = .returned (.bool m) ∧ w' = w := by
  rw [← hm.out]; exact (moment_any b w).mono fun _ _ ⟨h1, h2⟩ => ⟨h1, h2.symm⟩

theorem mom_in {b : Int} (h : momB b = true) : 0 ≤ b ∧ b ≤ 1099511627776 := of_decide_eq_true h

/-- What 'of' answers, behind names. -/
structure Looks (h : St) (n : Int) (c0 c1 c2 : Int) (s : Bool) : Prop where
  fl : flagI (look h n) = c0
  ic : incI (look h n) = c1
  nw : nowI (look h n) = c2
  so : (look h n).isSome = s
theorem looks (h : St) (n : Int) : ∃ c0 c1 c2 s, Looks h n c0 c1 c2 s := ⟨_, _, _, _, rfl, rfl, rfl, rfl⟩
theorem look_fits {h : St} (hf : Fits h) (n : Int) : 0 ≤ incI (look h n) ∧ incI (look h n) ≤ 9223372036854775807 ∧ 0 ≤ nowI (look h n) ∧ nowI (look h n) ≤ 1099511627776 := by
  unfold look
  cases isB n
  · exact Fits.none_ 0
  · exact hf n.toNat
theorem of_at {h : St} {n c0 c1 c2 : Int} {s : Bool} (H : Looks h n c0 c1 c2 s) (g : Nat) (t : Int) (w : World) (hm : Mem w g t h) : Calls Try.prog 24 #[.pointer (some ⟨g, 0, none⟩), .int .i64 n] w fun e w' =>
    e = .returned (.tuple #[.agg #[.int .i64 c0, .int .i64 c1, .int .i64 c2], .bool s]) ∧ Below w.heap.size w w' := by
  rw [← H.fl, ← H.ic, ← H.nw, ← H.so]; exact of_any g t h n w hm

set_option maxHeartbeats 800000 in
theorem alive_any (g : Nat) (t : Int) (h : St) (hf : Fits h) (n b : Int) (w : World) (hm : Mem w g t h) : Calls Try.prog 13 #[.pointer (some ⟨g, 0, none⟩), .int .i64 n, .int .i64 b] w fun e w' =>
    e = .returned (.bool (aliveB t h n b)) ∧ Below w.heap.size w w' := by
  obtain ⟨c0, c1, c2, s, HX⟩ := looks h n
  obtain ⟨_, _, x0, x1⟩ := look_fits hf n
  rw [HX.nw] at x0 x1
  obtain ⟨m, hmm⟩ : ∃ m, momB b = m := ⟨_, rfl⟩
  have hmb := @mom_in b
  rw [hmm] at hmb
  have HF : Hid (aliveB t h n b = (s && m && decide (c2 ≤ b) && decide (b - c2 ≤ t))) := Lib.hid (by rw [alive_eq]; unfold aliveX; rw [HX.nw, HX.so, hmm])
  have HMM := Lib.hid hmm
  clear hmm hf
  go_enter Try.func13, Try.ntmps13
  go_wp2_with fail
  refine (of_at HX g t _ hm).mono ?_
  rintro e W ⟨rfl, hb⟩
  have hm2 : Mem W g t h := hm.kept (Keeps.of_below (S := fun _ => False) hb) fun h => h
  go_upto_region 2 with fail
  have ct : (W.alloc (.cells #[.int .i64 c0, .int .i64 c1, .int .i64 c2] 49)).cell? ⟨g, 0, none⟩ = some (.int .i64 t) := (World.cell?_alloc_lt W _ _ hm2.lt).trans (hm2.cell 0)
  have cc : (W.alloc (.cells #[.int .i64 c0, .int .i64 c1, .int .i64 c2] 49)).cell? ⟨W.heap.size, 2, none⟩ = some (.int .i64 c2) := (Blk.new W 49 #[.int .i64 c0, .int .i64 c1, .int .i64 c2]).cell 2
  have hbb := hb.alloc hb.size (.cells #[.int .i64 c0, .int .i64 c1, .int .i64 c2] 49)
  generalize W.alloc (.cells #[.int .i64 c0, .int .i64 c1, .int .i64 c2] 49) = V at *
  have HB := Lib.hid hbb
  clear hm hm2 hb hbb HX
  cases s with
  | false =>
    go_quiet (fail)
    go_wp2_with fail
    go_ret
    exact ⟨ret_bool (by rw [HF.out]; rfl), HB.out.drewN _⟩
  | true =>
    cases m with
    | false =>
      clear hmb
      go_quiet ((go_at_call 25; exact Calls.quiet_of_same (moment_at HMM _)))
      go_wp2_with fail
      go_ret
      exact ⟨ret_bool (by rw [HF.out]; rfl), HB.out.drewN _⟩
    | true =>
      obtain ⟨b0, b1⟩ := hmb rfl
      clear hmb
      by_cases hle : c2 ≤ b
      · have d1 : decide (c2 ≤ b) = true := decide_eq_true hle
        have e1 : IntKind.i64.wrap (b - c2) = b - c2 := IntWalk.i64_in _ (by omega)
        by_cases hlt : b - c2 ≤ t
        · have d2 : decide (b - c2 ≤ t) = true := decide_eq_true hlt
          go_quiet ((go_at_call 25; exact Calls.quiet_of_same (moment_at HMM _)))
          go_wp2_with fail
          go_ret
          exact ⟨ret_bool (by rw [HF.out, decide_eq_true hle, decide_eq_true hlt]; rfl), HB.out.drewN _⟩
        · have d2 : decide (b - c2 ≤ t) = false := decide_eq_false hlt
          go_quiet ((go_at_call 25; exact Calls.quiet_of_same (moment_at HMM _)))
          go_wp2_with fail
          go_ret
          exact ⟨ret_bool (by rw [HF.out, decide_eq_true hle, decide_eq_false (by omega)]; rfl), HB.out.drewN _⟩
      · have d1 : decide (c2 ≤ b) = false := decide_eq_false hle
        go_quiet ((go_at_call 25; exact Calls.quiet_of_same (moment_at HMM _)))
        go_wp2_with fail
        go_ret
        exact ⟨ret_bool (by rw [HF.out, decide_eq_false (by omega)]; rfl), HB.out.drewN _⟩

theorem alive_none (n b : Int) (w : World) : Calls Try.prog 13 #[.pointer none, .int .i64 n, .int .i64 b] w fun e w' =>
    e = .returned (.bool false) ∧ Below w.heap.size w w' := by
  go_enter Try.func13, Try.ntmps13
  go_wp2_with fail
  refine (of_none n _).mono ?_
  rintro e W ⟨rfl, hb⟩
  go_upto_region 2 with fail
  have hbb := hb.alloc hb.size (.cells #[.int .i64 0, .int .i64 0, .int .i64 0] 49)
  generalize W.alloc (.cells #[.int .i64 0, .int .i64 0, .int .i64 0] 49) = V at *
  go_quiet (fail)
  go_wp2_with fail
  go_ret
  exact ⟨rfl, hbb.drewN _⟩

theorem hear_eq (h : St) (n a b : Int) : hearB h n a b = (isB n && decide (0 ≤ a) && momB b && !((look h n).isSome && decide (a < incI (look h n)))) := by
  unfold hearB look
  cases isB n <;> simp

theorem hearS_no {h : St} {n a b : Int} (hno : hearB h n a b = false) : hearS h n a b = h := by
  unfold hearS; rw [hno]; rfl
theorem hear_set {w : World} {g : Nat} {t : Int} {h : St} (hm : Mem w g t h) {i : Nat} (hi : i < 8) {a b : Int} (hy : hearB h (i : Int) a b = true) :
    Mem (((w.setCell ⟨g, 1 + i * 3, none⟩ (.int .i64 1)).setCell ⟨g, 1 + i * 3 + 1, none⟩ (.int .i64 a)).setCell ⟨g, 1 + i * 3 + 2, none⟩ (.int .i64 b)) g t (hearS h (i : Int) a b) := by
  unfold hearS
  rw [hy, if_pos rfl, Int.toNat_natCast]
  unfold Mem
  rw [← pc_set t h i hi a b]
  exact ((hm.set _ _).set _ _).set _ _

set_option maxHeartbeats 1600000 in
theorem hear_any (g : Nat) (t : Int) (h : St) (hf : Fits h) (n a b : Int) (w : World) (hm : Mem w g t h) : Calls Try.prog 12 #[.pointer (some ⟨g, 0, none⟩), .int .i64 n, .int .i64 a, .int .i64 b] w fun e w' =>
    e = .returned (.bool (hearB h n a b)) ∧ Mem w' g t (hearS h n a b) ∧ Keeps (· = g) w w' := by
  obtain ⟨c0, c1, c2, s, HX⟩ := looks h n
  obtain ⟨m, hmm⟩ : ∃ m, momB b = m := ⟨_, rfl⟩
  have HF : Hid (hearB h n a b = (isB n && decide (0 ≤ a) && m && !(s && decide (a < c1)))) := Lib.hid (by rw [hear_eq, HX.ic, HX.so, hmm])
  have HMM := Lib.hid hmm
  clear hmm hf
  go_enter Try.func12, Try.ntmps12
  go_wp2_with fail
  refine (of_at HX g t _ hm).mono ?_
  rintro e W ⟨rfl, hb⟩
  have hm2 : Mem W g t h := hm.kept (Keeps.of_below (S := fun _ => False) hb) fun h => h
  go_upto_region 2 with fail
  have cc : (W.alloc (.cells #[.int .i64 c0, .int .i64 c1, .int .i64 c2] 49)).cell? ⟨W.heap.size, 1, none⟩ = some (.int .i64 c1) := (Blk.new W 49 #[.int .i64 c0, .int .i64 c1, .int .i64 c2]).cell 1
  have hk : Keeps (· = g) w (W.alloc (.cells #[.int .i64 c0, .int .i64 c1, .int .i64 c2] 49)) := (Keeps.of_below hb).alloc _
  have hm3 : Mem (W.alloc (.cells #[.int .i64 c0, .int .i64 c1, .int .i64 c2] 49)) g t h := hm2.kept ((Keeps.refl (fun _ => False) _).alloc _) fun h => h
  generalize W.alloc (.cells #[.int .i64 c0, .int .i64 c1, .int .i64 c2] 49) = V at *
  have HK := Lib.hid hk
  have HM := Lib.hid hm3
  clear hm hm2 hm3 hb hk HX
  by_cases h0 : n < 0
  · have hi : isB n = false := decide_eq_false (by omega)
    go_wp2_with fail
    go_ret
    have hno : hearB h n a b = false := by rw [HF.out]; rw [hi]; rfl
    exact ⟨ret_bool hno.symm, by rw [hearS_no hno]; exact HM.out, HK.out⟩
  · by_cases h8 : 8 ≤ n
    · have hi : isB n = false := decide_eq_false (by omega)
      go_wp2_with fail
      go_ret
      have hno : hearB h n a b = false := by rw [HF.out]; rw [hi]; rfl
      exact ⟨ret_bool hno.symm, by rw [hearS_no hno]; exact HM.out, HK.out⟩
    · have hi : isB n = true := decide_eq_true (by omega)
      by_cases ha : a < 0
      · go_wp2_with fail
        go_ret
        have hno : hearB h n a b = false := by rw [HF.out]; rw [hi, decide_eq_false (by omega)]; rfl
        exact ⟨ret_bool hno.symm, by rw [hearS_no hno]; exact HM.out, HK.out⟩
      · cases m with
        | false =>
          go_wp2_with fail
          refine (moment_at HMM _).mono ?_
          rintro e V2 ⟨rfl, rfl⟩
          go_wp2_with fail
          go_ret
          have hno : hearB h n a b = false := by rw [HF.out]; cases isB n <;> cases decide (0 ≤ a) <;> rfl
          exact ⟨ret_bool hno.symm, by rw [hearS_no hno]; exact HM.out, HK.out⟩
        | true =>
          cases s with
          | true =>
            by_cases hlt : a < c1
            · go_wp2_with fail
              refine (moment_at HMM _).mono ?_
              rintro e V2 ⟨rfl, rfl⟩
              go_wp2_with fail
              go_ret
              have hno : hearB h n a b = false := by rw [HF.out]; rw [hi, decide_eq_true hlt, decide_eq_true (by omega)]; rfl
              exact ⟨ret_bool hno.symm, by rw [hearS_no hno]; exact HM.out, HK.out⟩
            · have hyes : hearB h n a b = true := by rw [HF.out, hi, decide_eq_false hlt, decide_eq_true (by omega)]; rfl
              have HY := Lib.hid hyes
              clear hyes hi
              obtain ⟨i, rfl⟩ := Int.eq_ofNat_of_zero_le (show 0 ≤ n by omega)
              have hi8 : i < 8 := by omega
              obtain ⟨k0, k1, k2⟩ := HM.out.at_ i hi8
              have f0 := HM.out.free (1 + i * 3)
              have f1 := HM.out.free (1 + i * 3 + 1)
              have f2 := HM.out.free (1 + i * 3 + 2)
              generalize flagI (h i) = z0 at k0
              generalize incI (h i) = z1 at k1
              generalize nowI (h i) = z2 at k2
              go_wp2_with fail
              refine (moment_at HMM _).mono ?_
              rintro e V2 ⟨rfl, rfl⟩
              go_wp2_with fail
              go_ret
              exact ⟨ret_bool HY.out.symm, hear_set HM.out hi8 HY.out, ((HK.out.setCell (S := (· = g)) (.inl rfl) _).setCell (S := (· = g)) (.inl rfl) _).setCell (S := (· = g)) (.inl rfl) _⟩
          | false =>
            have hyes : hearB h n a b = true := by rw [HF.out, hi, decide_eq_true (by omega)]; rfl
            have HY := Lib.hid hyes
            clear hyes hi
            obtain ⟨i, rfl⟩ := Int.eq_ofNat_of_zero_le (show 0 ≤ n by omega)
            have hi8 : i < 8 := by omega
            obtain ⟨k0, k1, k2⟩ := HM.out.at_ i hi8
            have f0 := HM.out.free (1 + i * 3)
            have f1 := HM.out.free (1 + i * 3 + 1)
            have f2 := HM.out.free (1 + i * 3 + 2)
            generalize flagI (h i) = z0 at k0
            generalize incI (h i) = z1 at k1
            generalize nowI (h i) = z2 at k2
            go_wp2_with fail
            refine (moment_at HMM _).mono ?_
            rintro e V2 ⟨rfl, rfl⟩
            go_wp2_with fail
            go_ret
            exact ⟨ret_bool HY.out.symm, hear_set HM.out hi8 HY.out, ((HK.out.setCell (S := (· = g)) (.inl rfl) _).setCell (S := (· = g)) (.inl rfl) _).setCell (S := (· = g)) (.inl rfl) _⟩

theorem hear_none (n a b : Int) (w : World) : Calls Try.prog 12 #[.pointer none, .int .i64 n, .int .i64 a, .int .i64 b] w fun e w' =>
    e = .returned (.bool false) ∧ Below w.heap.size w w' := by
  go_enter Try.func12, Try.ntmps12
  go_wp2_with fail
  refine (of_none n _).mono ?_
  rintro e W ⟨rfl, hb⟩
  go_wp2_with fail
  go_ret
  exact ⟨rfl, hb.alloc hb.size _⟩
end Go.Proofs.Ytbnfjlchmpdgeaa

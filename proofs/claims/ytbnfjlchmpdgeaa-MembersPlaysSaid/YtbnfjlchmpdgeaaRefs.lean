/-
  The walks of the reference of layer 20. Conditions: what is noted fits int and a moment.
-/
import Derived.Test.YtbnfjlchmpdgeaaWalks2
import Derived.Laws.Rows
import Derived.Deep.MidRow
namespace Go.Proofs.Ytbnfjlchmpdgeaa
set_option linter.unusedVariables false
open Go.RowKit

theorem is_at {n : Int} {m : Bool} (hm : Hid (isB n = m)) (w : World) : Calls Try.prog 22 #[.int .i64 n] w fun e w' => e = .returned (.bool m) ∧ w' = w := by
  rw [← hm.out]; exact (is_any n w).mono fun _ _ ⟨h1, h2⟩ => ⟨h1, h2.symm⟩
theorem rmoment_at {b : Int} {m : Bool} (hm : Hid (momB b = m)) (w : World) : Calls Try.prog 23 #[.int .i64 b] w fun e w' => e = .returned (.bool m) ∧ w' = w := by
  rw [← hm.out]; exact (rmoment_any b w).mono fun _ _ ⟨h1, h2⟩ => ⟨h1, h2.symm⟩

/-- Cells written one behind the other. -/
def over (c : Array Value) : Nat → List Value → Array Value
  | _, [] => c
  | o, v :: r => over (c.setIfInBounds o v) (o + 1) r
theorem over_get : ∀ (l : List Value) (c : Array Value) (o j : Nat), o + l.length ≤ c.size → (over c o l)[j]? = if o ≤ j ∧ j < o + l.length then l[j - o]? else c[j]?
  | [], c, o, j, _ => by rw [if_neg (by simp)]; rfl
  | v :: r, c, o, j, h => by
    simp only [List.length_cons] at h
    have ih := over_get r (c.setIfInBounds o v) (o + 1) j (by simp; omega)
    show (over (c.setIfInBounds o v) (o + 1) r)[j]? = _
    rw [ih, Array.getElem?_setIfInBounds]
    by_cases h1 : j = o
    · subst h1
      rw [if_neg (by omega), if_pos rfl, if_pos (by omega), if_pos (by simp)]
      simp
    · by_cases h2 : o + 1 ≤ j ∧ j < o + 1 + r.length
      · rw [if_pos h2, if_pos (by simp; omega), show j - o = (j - (o + 1)) + 1 by omega, List.getElem?_cons_succ]
      · rw [if_neg h2, if_neg (by omega), if_neg (by simp; omega)]
theorem over_all (c cs : Array Value) (h : cs.size = c.size) : over c 0 cs.toList = cs := by
  apply Array.ext_getElem?
  intro j
  rw [over_get _ _ _ _ (by simp; omega)]
  by_cases hj : j < cs.size
  · rw [if_pos (by simp; omega)]; simp
  · rw [if_neg (by simp; omega), Array.getElem?_eq_none (by omega), Array.getElem?_eq_none (by omega)]
theorem Blk.setOver : ∀ (l : List Value) {w : World} {g : Nat} {t : TypeId} {cs : Array Value} (o : Nat), Blk w g t cs → Blk (w.setCells g o l) g t (over cs o l)
  | [], _, _, _, _, _, h => h
  | v :: r, w, g, t, cs, o, h => Blk.setOver r (o + 1) (h.set o v)
theorem Blk.setAll {w : World} {g : Nat} {t : TypeId} {c : Array Value} (cs : Array Value) (h : Blk w g t c) (hs : cs.size = c.size) : Blk (w.setCells g 0 cs.toList) g t cs := by
  have := Blk.setOver cs.toList 0 h
  rwa [over_all c cs hs] at this
theorem Keeps.setCells {S : Nat → Prop} : ∀ (l : List Value) {a w : World} {g : Nat} (o : Nat), Keeps S a w → (S g ∨ a.heap.size ≤ g) → Keeps S a (w.setCells g o l)
  | [], _, _, _, _, h, _ => h
  | v :: r, a, w, g, o, h, hp => Keeps.setCells r (o + 1) (h.setCell hp v) hp
theorem size_setCells : ∀ (l : List Value) (w : World) (g o : Nat), (w.setCells g o l).heap.size = w.heap.size
  | [], _, _, _ => rfl
  | v :: r, w, g, o => (size_setCells r _ g (o + 1)).trans (by simp [World.setCell])
theorem Blk.there {w : World} {g : Nat} {t : TypeId} {c : Array Value} (h : Blk w g t c) : w.there g 0 c.size := fun j hj => by
  rw [Nat.zero_add, h.cell, h.free]
  exact ⟨by rw [Array.getElem?_eq_getElem hj]; rfl, rfl⟩
theorem info29 : (Try.prog.info? 29).map (·.size) = some 25 := by kernel_rfl
theorem rc_one (t : Int) (h : St) : (rc t h).all (·.oneCell') = true := by simp [rc, Value.oneCell']
def rz : Array Value := rc 0 St.none

/-- The reference's members, boxed. -/
theorem boxed (w : World) (t : Int) (h : St) : Blk (w.alloc (.cells (rc t h) 29)) w.heap.size 29 (rc t h) := Blk.new _ _ _
theorem ref_at {w : World} {g : Nat} {t : Int} {h : St} (hm : Blk w g 29 (rc t h)) (i : Nat) (hi : i < 8) : w.cell? ⟨g, 1 + i, none⟩ = some (.bool (h i).isSome) ∧ w.cell? ⟨g, 9 + i, none⟩ = some (.int .i64 (incI (h i))) ∧ w.cell? ⟨g, 17 + i, none⟩ = some (.int .i64 (nowI (h i))) := by
  obtain ⟨a, b, c⟩ := rc_at t h i hi
  exact ⟨(hm.cell _).trans a, (hm.cell _).trans b, (hm.cell _).trans c⟩

theorem rinc_any (t : Int) (h : St) (n : Int) (w : World) : Calls Try.prog 16 #[.agg (rc t h), .int .i64 n] w fun e w' =>
    e = .returned (.int .i64 (incA h n)) ∧ Below w.heap.size w w' := by
  by_cases hi : 0 ≤ n ∧ n < 8
  · have HI : Hid (isB n = true) := Lib.hid (decide_eq_true hi)
    obtain ⟨i, rfl⟩ := Int.eq_ofNat_of_zero_le hi.1
    have hi8 : i < 8 := by omega
    have HF : Hid (incA h (i : Int) = if (h i).isSome then incI (h i) else -1) := Lib.hid (by unfold incA; rw [HI.out]; rfl)
    clear hi
    go_enter Try.func16, Try.ntmps16
    go_upto_region 1 with fail
    obtain ⟨k0, k1, _⟩ := ref_at (boxed w t h) i hi8
    have hb := (Below.refl w.heap.size w).alloc (Nat.le_refl _) (.cells (rc t h) 29)
    generalize w.alloc (.cells (rc t h) 29) = V at *
    generalize h i = x at *
    cases x with
    | none =>
      rw [Option.isSome_none] at k0
      clear k1
      go_wp2_with fail
      refine (is_at HI _).mono ?_
      rintro e V2 ⟨rfl, rfl⟩
      go_wp2_with fail
      go_ret
      exact ⟨by rw [HF.out]; rfl, hb⟩
    | some x =>
      rw [Option.isSome_some] at k0
      generalize incI (some x) = z at k1 HF
      go_wp2_with fail
      refine (is_at HI _).mono ?_
      rintro e V2 ⟨rfl, rfl⟩
      go_wp2_with fail
      go_ret
      exact ⟨by rw [HF.out]; rfl, hb⟩
  · have HI : Hid (isB n = false) := Lib.hid (decide_eq_false hi)
    have HF : Hid (incA h n = -1) := Lib.hid (by unfold incA; rw [HI.out]; rfl)
    clear hi
    go_enter Try.func16, Try.ntmps16
    go_wp2_with fail
    refine (is_at HI _).mono ?_
    rintro e V2 ⟨rfl, rfl⟩
    go_wp2_with fail
    go_ret
    exact ⟨by rw [HF.out]; rfl, (Below.refl _ _).alloc (Nat.le_refl _) _⟩

set_option maxHeartbeats 1600000 in
theorem ralive_any (t : Int) (h : St) (hf : Fits h) (n b : Int) (w : World) : Calls Try.prog 14 #[.agg (rc t h), .int .i64 n, .int .i64 b] w fun e w' =>
    e = .returned (.bool (aliveB t h n b)) ∧ Below w.heap.size w w' := by
  obtain ⟨m, hmm⟩ : ∃ m, momB b = m := ⟨_, rfl⟩
  have hmb := @mom_in b
  rw [hmm] at hmb
  have HMM := Lib.hid hmm
  by_cases hi : 0 ≤ n ∧ n < 8
  · have hi1 : isB n = true := decide_eq_true hi
    have HI : Hid (isB n = true) := Lib.hid hi1
    obtain ⟨i, rfl⟩ := Int.eq_ofNat_of_zero_le hi.1
    have hi8 : i < 8 := by omega
    obtain ⟨_, _, x0, x1⟩ := hf i
    have hff : aliveB t h (i : Int) b = ((h i).isSome && m && decide (nowI (h i) ≤ b) && decide (b - nowI (h i) ≤ t)) := by
      unfold aliveB; rw [hi1, hmm, Int.toNat_natCast, Bool.true_and]
    have HF := Lib.hid hff
    clear hi hff hmm hf hi1
    go_enter Try.func14, Try.ntmps14
    go_upto_region 1 with fail
    obtain ⟨k0, _, k2⟩ := ref_at (boxed w t h) i hi8
    have kt := (boxed w t h).cell 0
    rw [rc_t] at kt
    have hb := (Below.refl w.heap.size w).alloc (Nat.le_refl _) (.cells (rc t h) 29)
    generalize w.alloc (.cells (rc t h) 29) = V at *
    have HB := Lib.hid hb
    clear hb
    generalize nowI (h i) = c2 at *
    generalize (h i).isSome = s at *
    cases m with
    | false =>
      clear hmb
      go_quiet ((first | (go_at_call 22; exact Calls.quiet_of_same (is_at HI _)) | (go_at_call 23; exact Calls.quiet_of_same (rmoment_at HMM _))))
      go_wp2_with fail
      go_ret
      exact ⟨ret_bool (by rw [HF.out]; cases s <;> rfl), HB.out.drewN _⟩
    | true =>
      obtain ⟨b0, b1⟩ := hmb rfl
      clear hmb
      cases s with
      | false =>
        go_quiet ((first | (go_at_call 22; exact Calls.quiet_of_same (is_at HI _)) | (go_at_call 23; exact Calls.quiet_of_same (rmoment_at HMM _))))
        go_wp2_with fail
        go_ret
        exact ⟨ret_bool (by rw [HF.out]; rfl), HB.out.drewN _⟩
      | true =>
        by_cases hle : c2 ≤ b
        · have d1 : decide (c2 ≤ b) = true := decide_eq_true hle
          have e1 : IntKind.i64.wrap (b - c2) = b - c2 := IntWalk.i64_in _ (by omega)
          by_cases hlt : b - c2 ≤ t
          · have d2 : decide (b - c2 ≤ t) = true := decide_eq_true hlt
            go_quiet ((first | (go_at_call 22; exact Calls.quiet_of_same (is_at HI _)) | (go_at_call 23; exact Calls.quiet_of_same (rmoment_at HMM _))))
            go_wp2_with fail
            go_ret
            exact ⟨ret_bool (by rw [HF.out, decide_eq_true hle, decide_eq_true hlt]; rfl), HB.out.drewN _⟩
          · have d2 : decide (b - c2 ≤ t) = false := decide_eq_false hlt
            go_quiet ((first | (go_at_call 22; exact Calls.quiet_of_same (is_at HI _)) | (go_at_call 23; exact Calls.quiet_of_same (rmoment_at HMM _))))
            go_wp2_with fail
            go_ret
            exact ⟨ret_bool (by rw [HF.out, decide_eq_true hle, decide_eq_false (by omega)]; rfl), HB.out.drewN _⟩
        · have d1 : decide (c2 ≤ b) = false := decide_eq_false hle
          go_quiet ((first | (go_at_call 22; exact Calls.quiet_of_same (is_at HI _)) | (go_at_call 23; exact Calls.quiet_of_same (rmoment_at HMM _))))
          go_wp2_with fail
          go_ret
          exact ⟨ret_bool (by rw [HF.out, decide_eq_false (by omega)]; rfl), HB.out.drewN _⟩
  · have hi1 : isB n = false := decide_eq_false hi
    have HI : Hid (isB n = false) := Lib.hid hi1
    have HF : Hid (aliveB t h n b = false) := Lib.hid (by unfold aliveB; rw [hi1]; rfl)
    clear hi hmm hmb hf hi1
    go_enter Try.func14, Try.ntmps14
    go_upto_region 1 with fail
    have hb := (Below.refl w.heap.size w).alloc (Nat.le_refl _) (.cells (rc t h) 29)
    generalize w.alloc (.cells (rc t h) 29) = V at *
    go_quiet ((go_at_call 22; exact Calls.quiet_of_same (is_at HI _)))
    go_wp2_with fail
    go_ret
    exact ⟨ret_bool (by rw [HF.out]), hb.drewN _⟩

theorem rnew_any (n : Int) (w : World) : Calls Try.prog 10 #[.int .i64 n] w fun e w' =>
    e = .returned (.agg (rc (clamp n 0 1048576) St.none)) ∧ Below w.heap.size w w' := by
  go_enter Try.func10, Try.ntmps10
  go_wp2_with fail
  refine (rticks_any n _).mono ?_
  rintro e V2 ⟨rfl, rfl⟩
  have hb := (Below.refl w.heap.size w).alloc (Nat.le_refl _) (.cells rz 29)
  have hk : Blk (w.alloc (.cells rz 29)) w.heap.size 29 rz := Blk.new _ _ _
  have hkk := Blk.setAll (rc (clamp n 0 1048576) St.none) hk rfl
  have hkb : Below w.heap.size w ((w.alloc (.cells rz 29)).setCells w.heap.size 0 (rc (clamp n 0 1048576) St.none).toList) := (Keeps.setCells (S := fun k => w.heap.size ≤ k) _ 0 (Keeps.of_below hb) (.inl (Nat.le_refl _))).below (Nat.le_refl _) fun _ h => h
  go_wp2_with (refine wpList_store_mid rfl 29 _ _ rfl w.heap.size 0 (rc (clamp n 0 1048576) St.none) rfl rfl hk.there info29 (rc_one _ _) ?_)
  refine bodyPost_ret (results_cell_row rfl _ _ w.heap.size 29 (rc (clamp n 0 1048576) St.none) (0, 0) _ rfl hkk Try.underlying29 rfl info29) rfl ⟨rfl, hkb⟩

theorem set3_keeps (w : World) (g x y z : Nat) (a b c : Value) : Keeps (· = g) w (((w.setCell ⟨g, x, none⟩ a).setCell ⟨g, y, none⟩ b).setCell ⟨g, z, none⟩ c) :=
  (((Keeps.refl _ _).setCell (S := (· = g)) (.inl rfl) _).setCell (.inl rfl) _).setCell (.inl rfl) _
theorem ref_result (tmps : Array Value) (w : World) (g : Nat) {t : Int} {h : St} {b : Bool} (hp : tmps.getD 8 undef = .pointer (some ⟨g, 0, none⟩)) (hq : tmps.getD 9 undef = .bool b) (hg : Blk w g 29 (rc t h)) :
    (results Try.f11 tmps).run Try.prog w = .ok (.tuple #[.agg (rc t h), .bool b]) w := by
  have hp' : tmps[8]?.getD undef = .pointer (some ⟨g, 0, none⟩) := by simpa using hp
  have hq' : tmps[9]?.getD undef = .bool b := by simpa using hq
  simp [results, Try.results11, hp', hq', asAddr, run_loadVar_row w g 29 29 (rc t h) (0, 0) _ hg Try.underlying29 rfl info29]

set_option maxHeartbeats 1600000 in
set_option maxRecDepth 100000 in
theorem rhear_any (t : Int) (h : St) (n a b : Int) (w : World) : Calls Try.prog 11 #[.agg (rc t h), .int .i64 n, .int .i64 a, .int .i64 b] w fun e w' =>
    e = .returned (.tuple #[.agg (rc t (hearS h n a b)), .bool (hearB h n a b)]) ∧ Below w.heap.size w w' := by
  obtain ⟨m, hmm⟩ : ∃ m, momB b = m := ⟨_, rfl⟩
  have HMM := Lib.hid hmm
  by_cases hi : 0 ≤ n ∧ n < 8
  · have hi1 : isB n = true := decide_eq_true hi
    have HI : Hid (isB n = true) := Lib.hid hi1
    obtain ⟨i, rfl⟩ := Int.eq_ofNat_of_zero_le hi.1
    have hi8 : i < 8 := by omega
    have hff : hearB h (i : Int) a b = (decide (0 ≤ a) && m && !((h i).isSome && decide (a < incI (h i)))) := by
      unfold hearB; rw [hi1, hmm, Int.toNat_natCast, Bool.true_and]
    have HF := Lib.hid hff
    clear hi hff hmm hi1
    by_cases ha : a < 0
    · have hno : hearB h (i : Int) a b = false := by rw [HF.out, decide_eq_false (by omega)]; rfl
      rw [hearS_no hno, hno]
      clear hno HF
      go_enter Try.func11, Try.ntmps11
      go_upto_region 1 with fail
      have hb := ((Below.refl w.heap.size w).alloc (Nat.le_refl _) (.cells (rc t h) 29)).alloc (by simp) (.cells rz 29)
      have hk : Blk ((w.alloc (.cells (rc t h) 29)).alloc (.cells rz 29)) w.heap.size 29 (rc t h) := (boxed w t h).kept ((Keeps.refl (fun _ => False) _).alloc _) fun h => h
      have hz : Blk ((w.alloc (.cells (rc t h) 29)).alloc (.cells rz 29)) (w.heap.size + 1) 29 rz := by simpa using Blk.new (w.alloc (.cells (rc t h) 29)) 29 rz
      show Code.wp _ _ _ _ ((w.alloc (.cells (rc t h) 29)).alloc (.cells rz 29))
      generalize (w.alloc (.cells (rc t h) 29)).alloc (.cells rz 29) = V at *
      have HB := Lib.hid hb
      have HK := Lib.hid hk
      have HZ := Lib.hid hz
      clear hb hk hz
      go_wp2_with fail
      refine (is_at HI _).mono ?_
      rintro e V2 ⟨rfl, rfl⟩
      go_upto_region 2 with fail
      have HW := Lib.hid (Blk.setAll (rc t h) HZ.out rfl)
      have HWB : Hid (Below w.heap.size w (V2.setCells (w.heap.size + 1) 0 (rc t h).toList)) := Lib.hid ((Keeps.setCells (S := fun k => w.heap.size ≤ k) _ 0 (Keeps.of_below HB.out) (.inl (by omega))).below (Nat.le_refl _) fun _ h => h)
      go_wp2_with (first | (refine wpList_load_row rfl 29 _ rfl w.heap.size rfl 29 (rc t h) (0, 0) _ HK.out Try.underlying29 rfl info29 ?_) | (refine wpList_store_mid rfl 29 _ _ rfl (w.heap.size + 1) 0 (rc t h) rfl rfl HZ.out.there info29 (rc_one _ _) ?_))
      refine bodyPost_ret (v := .tuple #[.agg (rc t h), .bool false]) (ref_result _ _ _ rfl rfl HW.out) rfl ⟨rfl, HWB.out⟩
    · cases m with
      | false =>
        have hno : hearB h (i : Int) a b = false := by rw [HF.out]; cases decide (0 ≤ a) <;> rfl
        rw [hearS_no hno, hno]
        clear hno HF
        go_enter Try.func11, Try.ntmps11
        go_upto_region 1 with fail
        have hb := ((Below.refl w.heap.size w).alloc (Nat.le_refl _) (.cells (rc t h) 29)).alloc (by simp) (.cells rz 29)
        have hk : Blk ((w.alloc (.cells (rc t h) 29)).alloc (.cells rz 29)) w.heap.size 29 (rc t h) := (boxed w t h).kept ((Keeps.refl (fun _ => False) _).alloc _) fun h => h
        have hz : Blk ((w.alloc (.cells (rc t h) 29)).alloc (.cells rz 29)) (w.heap.size + 1) 29 rz := by simpa using Blk.new (w.alloc (.cells (rc t h) 29)) 29 rz
        show Code.wp _ _ _ _ ((w.alloc (.cells (rc t h) 29)).alloc (.cells rz 29))
        generalize (w.alloc (.cells (rc t h) 29)).alloc (.cells rz 29) = V at *
        have HB := Lib.hid hb
        have HK := Lib.hid hk
        have HZ := Lib.hid hz
        clear hb hk hz
        go_wp2_with fail
        refine (is_at HI _).mono ?_
        rintro e V2 ⟨rfl, rfl⟩
        go_wp2_with fail
        refine (rmoment_at HMM _).mono ?_
        rintro e V2 ⟨rfl, rfl⟩
        go_upto_region 2 with fail
        have HW := Lib.hid (Blk.setAll (rc t h) HZ.out rfl)
        have HWB : Hid (Below w.heap.size w (V2.setCells (w.heap.size + 1) 0 (rc t h).toList)) := Lib.hid ((Keeps.setCells (S := fun k => w.heap.size ≤ k) _ 0 (Keeps.of_below HB.out) (.inl (by omega))).below (Nat.le_refl _) fun _ h => h)
        go_wp2_with (first | (refine wpList_load_row rfl 29 _ rfl w.heap.size rfl 29 (rc t h) (0, 0) _ HK.out Try.underlying29 rfl info29 ?_) | (refine wpList_store_mid rfl 29 _ _ rfl (w.heap.size + 1) 0 (rc t h) rfl rfl HZ.out.there info29 (rc_one _ _) ?_))
        refine bodyPost_ret (v := .tuple #[.agg (rc t h), .bool false]) (ref_result _ _ _ rfl rfl HW.out) rfl ⟨rfl, HWB.out⟩
      | true =>
        by_cases hs : (h i).isSome = true ∧ a < incI (h i)
        · have hno : hearB h (i : Int) a b = false := by rw [HF.out, hs.1, decide_eq_true hs.2, decide_eq_true (by omega)]; rfl
          rw [hearS_no hno, hno]
          clear hno HF
          go_enter Try.func11, Try.ntmps11
          go_upto_region 1 with fail
          have hb := ((Below.refl w.heap.size w).alloc (Nat.le_refl _) (.cells (rc t h) 29)).alloc (by simp) (.cells rz 29)
          have hk : Blk ((w.alloc (.cells (rc t h) 29)).alloc (.cells rz 29)) w.heap.size 29 (rc t h) := (boxed w t h).kept ((Keeps.refl (fun _ => False) _).alloc _) fun h => h
          have hz : Blk ((w.alloc (.cells (rc t h) 29)).alloc (.cells rz 29)) (w.heap.size + 1) 29 rz := by simpa using Blk.new (w.alloc (.cells (rc t h) 29)) 29 rz
          show Code.wp _ _ _ _ ((w.alloc (.cells (rc t h) 29)).alloc (.cells rz 29))
          generalize (w.alloc (.cells (rc t h) 29)).alloc (.cells rz 29) = V at *
          obtain ⟨k0, k1, _⟩ := ref_at hk i hi8
          obtain ⟨hs0, hs1⟩ := hs
          rw [hs0] at k0
          generalize incI (h i) = z at *
          clear hs0
          have HB := Lib.hid hb
          have HK := Lib.hid hk
          have HZ := Lib.hid hz
          clear hb hk hz
          go_wp2_with fail
          refine (is_at HI _).mono ?_
          rintro e V2 ⟨rfl, rfl⟩
          go_wp2_with fail
          refine (rmoment_at HMM _).mono ?_
          rintro e V2 ⟨rfl, rfl⟩
          go_upto_region 2 with fail
          have HW := Lib.hid (Blk.setAll (rc t h) HZ.out rfl)
          have HWB : Hid (Below w.heap.size w (V2.setCells (w.heap.size + 1) 0 (rc t h).toList)) := Lib.hid ((Keeps.setCells (S := fun k => w.heap.size ≤ k) _ 0 (Keeps.of_below HB.out) (.inl (by omega))).below (Nat.le_refl _) fun _ h => h)
          go_wp2_with (first | (refine wpList_load_row rfl 29 _ rfl w.heap.size rfl 29 (rc t h) (0, 0) _ HK.out Try.underlying29 rfl info29 ?_) | (refine wpList_store_mid rfl 29 _ _ rfl (w.heap.size + 1) 0 (rc t h) rfl rfl HZ.out.there info29 (rc_one _ _) ?_))
          refine bodyPost_ret (v := .tuple #[.agg (rc t h), .bool false]) (ref_result _ _ _ rfl rfl HW.out) rfl ⟨rfl, HWB.out⟩
        · have hyes : hearB h (i : Int) a b = true := by
            rw [HF.out, decide_eq_true (by omega)]
            cases h1 : (h i).isSome
            · rfl
            · rw [decide_eq_false (fun h2 => hs ⟨h1, h2⟩)]; rfl
          have hS : hearS h (i : Int) a b = h.upd i a b := by unfold hearS; rw [hyes, if_pos rfl, Int.toNat_natCast]
          rw [hyes, hS]
          clear hyes hS HF
          cases h1 : (h i).isSome
          all_goals
            have hs2 : (h i).isSome = true → ¬ a < incI (h i) := fun h1 h2 => hs ⟨h1, h2⟩
            rw [h1] at hs2
            go_enter Try.func11, Try.ntmps11
            go_upto_region 1 with fail
            have hb := ((Below.refl w.heap.size w).alloc (Nat.le_refl _) (.cells (rc t h) 29)).alloc (by simp) (.cells rz 29)
            have hk : Blk ((w.alloc (.cells (rc t h) 29)).alloc (.cells rz 29)) w.heap.size 29 (rc t h) := (boxed w t h).kept ((Keeps.refl (fun _ => False) _).alloc _) fun h => h
            have hz : Blk ((w.alloc (.cells (rc t h) 29)).alloc (.cells rz 29)) (w.heap.size + 1) 29 rz := by simpa using Blk.new (w.alloc (.cells (rc t h) 29)) 29 rz
            show Code.wp _ _ _ _ ((w.alloc (.cells (rc t h) 29)).alloc (.cells rz 29))
            generalize (w.alloc (.cells (rc t h) 29)).alloc (.cells rz 29) = V at *
            obtain ⟨k0, k1, k2⟩ := ref_at hk i hi8
            rw [h1] at k0
            have f0 := hk.free (1 + i)
            have f1 := hk.free (9 + i)
            have f2 := hk.free (17 + i)
            generalize incI (h i) = z at *
            generalize nowI (h i) = z2 at *
            simp only [Bool.false_eq_true, false_implies, true_implies] at hs2
            clear hs
            have HB := Lib.hid hb
            have HK := Lib.hid hk
            have HZ := Lib.hid hz
            clear hb hk hz
            go_wp2_with fail
            refine (is_at HI _).mono ?_
            rintro e V2 ⟨rfl, rfl⟩
            go_wp2_with fail
            refine (rmoment_at HMM _).mono ?_
            rintro e V2 ⟨rfl, rfl⟩
            go_upto_region 6 with fail
            have hk2 := HK.out.set (1 + i) (.bool true) |>.set (9 + i) (.int .i64 a) |>.set (17 + i) (.int .i64 b)
            rw [rc_set t h i hi8 a b] at hk2
            have hz2 := HZ.out.kept (set3_keeps V2 w.heap.size (1 + i) (9 + i) (17 + i) (.bool true) (.int .i64 a) (.int .i64 b)) (by omega)
            have hb2 : Below w.heap.size w (((V2.setCell ⟨w.heap.size, 1 + i, none⟩ (.bool true)).setCell ⟨w.heap.size, 9 + i, none⟩ (.int .i64 a)).setCell ⟨w.heap.size, 17 + i, none⟩ (.int .i64 b)) := ((HB.out.setCell (Nat.le_refl _) _).setCell (Nat.le_refl _) _).setCell (Nat.le_refl _) _
            generalize ((V2.setCell ⟨w.heap.size, 1 + i, none⟩ (.bool true)).setCell ⟨w.heap.size, 9 + i, none⟩ (.int .i64 a)).setCell ⟨w.heap.size, 17 + i, none⟩ (.int .i64 b) = V3 at *
            clear HB HK HZ k0 k1 k2 f0 f1 f2
            have HB := Lib.hid hb2
            have HK := Lib.hid hk2
            have HZ := Lib.hid hz2
            clear hb2 hk2 hz2
            have HW := Lib.hid (Blk.setAll (rc t (h.upd i a b)) HZ.out rfl)
            have HWB : Hid (Below w.heap.size w (V3.setCells (w.heap.size + 1) 0 (rc t (h.upd i a b)).toList)) := Lib.hid ((Keeps.setCells (S := fun k => w.heap.size ≤ k) _ 0 (Keeps.of_below HB.out) (.inl (by omega))).below (Nat.le_refl _) fun _ h => h)
            go_wp2_with (first | (refine wpList_load_row rfl 29 _ rfl w.heap.size rfl 29 (rc t (h.upd i a b)) (0, 0) _ HK.out Try.underlying29 rfl info29 ?_) | (refine wpList_store_mid rfl 29 _ _ rfl (w.heap.size + 1) 0 (rc t (h.upd i a b)) rfl rfl HZ.out.there info29 (rc_one _ _) ?_))
            refine bodyPost_ret (v := .tuple #[.agg (rc t (h.upd i a b)), .bool true]) (ref_result _ _ _ rfl rfl HW.out) rfl ⟨rfl, HWB.out⟩
  · have hi1 : isB n = false := decide_eq_false hi
    have HI : Hid (isB n = false) := Lib.hid hi1
    have hno : hearB h n a b = false := by unfold hearB; rw [hi1]; rfl
    rw [hearS_no hno, hno]
    clear hi hmm hi1 hno
    go_enter Try.func11, Try.ntmps11
    go_upto_region 1 with fail
    have hb := ((Below.refl w.heap.size w).alloc (Nat.le_refl _) (.cells (rc t h) 29)).alloc (by simp) (.cells rz 29)
    have hk : Blk ((w.alloc (.cells (rc t h) 29)).alloc (.cells rz 29)) w.heap.size 29 (rc t h) := (boxed w t h).kept ((Keeps.refl (fun _ => False) _).alloc _) fun h => h
    have hz : Blk ((w.alloc (.cells (rc t h) 29)).alloc (.cells rz 29)) (w.heap.size + 1) 29 rz := by simpa using Blk.new (w.alloc (.cells (rc t h) 29)) 29 rz
    show Code.wp _ _ _ _ ((w.alloc (.cells (rc t h) 29)).alloc (.cells rz 29))
    generalize (w.alloc (.cells (rc t h) 29)).alloc (.cells rz 29) = V at *
    have HB := Lib.hid hb
    have HK := Lib.hid hk
    have HZ := Lib.hid hz
    clear hb hk hz
    go_wp2_with fail
    refine (is_at HI _).mono ?_
    rintro e V2 ⟨rfl, rfl⟩
    go_upto_region 2 with fail
    have HW := Lib.hid (Blk.setAll (rc t h) HZ.out rfl)
    have HWB : Hid (Below w.heap.size w (V2.setCells (w.heap.size + 1) 0 (rc t h).toList)) := Lib.hid ((Keeps.setCells (S := fun k => w.heap.size ≤ k) _ 0 (Keeps.of_below HB.out) (.inl (by omega))).below (Nat.le_refl _) fun _ h => h)
    go_wp2_with (first | (refine wpList_load_row rfl 29 _ rfl w.heap.size rfl 29 (rc t h) (0, 0) _ HK.out Try.underlying29 rfl info29 ?_) | (refine wpList_store_mid rfl 29 _ _ rfl (w.heap.size + 1) 0 (rc t h) rfl rfl HZ.out.there info29 (rc_one _ _) ?_))
    refine bodyPost_ret (v := .tuple #[.agg (rc t h), .bool false]) (ref_result _ _ _ rfl rfl HW.out) rfl ⟨rfl, HWB.out⟩
end Go.Proofs.Ytbnfjlchmpdgeaa

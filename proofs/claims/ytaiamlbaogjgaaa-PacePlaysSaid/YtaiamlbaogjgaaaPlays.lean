/-
  The walk of PacePlays: it returns true for every input. No condition beyond what fits a kind.
-/
import Derived.Test.YtaiamlbaogjgaaaBound
import Derived.Deep.DeepCutAuto
namespace Go.Proofs.Ytaiamlbaogjgaaa
set_option linter.unusedVariables false
open Go.RowKit

theorem bcell {w w1 : World} (hb : Keeps (fun _ => False) w w1) : (∀ b o, b < w.heap.size → w1.cell? ⟨b, o, none⟩ = w.cell? ⟨b, o, none⟩) ∧ (∀ b o, b < w.heap.size → w1.frozen? ⟨b, o, none⟩ = w.frozen? ⟨b, o, none⟩) :=
  ⟨fun b o h => World.cell?_of_block (w := w) (hb.block b h fun h => h), fun b o h => World.frozen?_of_block (w := w) (hb.block b h fun h => h)⟩
theorem rtake_val (a b c : Int) (w : World) (hg : Good a b c) : Calls Try.prog 12 #[.agg #[.int .i64 a, .int .i64 b, .int .i64 c]] w fun e w' =>
    e = .returned (.tuple #[.agg #[.int .i64 a, .int .i64 b, .int .i64 (rest c)], .bool (enough c)]) ∧ Below w.heap.size w w' := rtake_any a b c w hg
theorem rtick_val (a b c n : Int) (w : World) (hg : Good a b c) : Calls Try.prog 15 #[.agg #[.int .i64 a, .int .i64 b, .int .i64 c], .int .i64 n] w fun e w' =>
    e = .returned (.agg #[.int .i64 a, .int .i64 b, .int .i64 (later a b c n)]) ∧ Below w.heap.size w w' := rtick_any a b c n w hg
theorem Blk.set3 {w : World} {g : Nat} {t : TypeId} {x0 x1 x2 : Value} (h : Blk w g t #[x0, x1, x2]) (a b c : Value) : Blk (((w.setCell ⟨g, 0, none⟩ a).setCell ⟨g, 1, none⟩ b).setCell ⟨g, 2, none⟩ c) g t #[a, b, c] := ((h.set 0 a).set 1 b).set 2 c
theorem keeps_set3 (w : World) (g : Nat) (a b c : Value) : Keeps (· = g) w (((w.setCell ⟨g, 0, none⟩ a).setCell ⟨g, 1, none⟩ b).setCell ⟨g, 2, none⟩ c) :=
  (((Keeps.refl _ _).setCell (S := (· = g)) (.inl rfl) _).setCell (.inl rfl) _).setCell (.inl rfl) _
theorem Blk.drewN {w : World} {g : Nat} {t : TypeId} {cs : Array Value} (h : Blk w g t cs) (n : Nat) : Blk (w.drewN n) g t cs := h
theorem Bk.drewN {w : World} {g : Nat} {a b c : Int} (h : Bk w g a b c) (n : Nat) : Bk (w.drewN n) g a b c := h
theorem bcellB {w w1 : World} (hb : Below w.heap.size w w1) : (∀ b o, b < w.heap.size → w1.cell? ⟨b, o, none⟩ = w.cell? ⟨b, o, none⟩) ∧ (∀ b o, b < w.heap.size → w1.frozen? ⟨b, o, none⟩ = w.frozen? ⟨b, o, none⟩) :=
  ⟨fun b o h => hb.cell (p := ⟨b, o, none⟩) h, fun b o h => hb.frozen (p := ⟨b, o, none⟩) h⟩
theorem after3 {w w1 : World} {g : Nat} {t : TypeId} {x0 x1 x2 : Value} (h : Blk w g t #[x0, x1, x2]) (hb : Below w.drew.heap.size w.drew w1) :
    w1.cell? ⟨g, 0, none⟩ = some x0 ∧ w1.cell? ⟨g, 1, none⟩ = some x1 ∧ w1.cell? ⟨g, 2, none⟩ = some x2 ∧ w1.frozen? ⟨g, 0, none⟩ = false ∧ w1.frozen? ⟨g, 1, none⟩ = false ∧ w1.frozen? ⟨g, 2, none⟩ = false := by
  have k : Blk w1 g t #[x0, x1, x2] := Blk.kept (w := w.drew) h (Keeps.of_below (S := fun _ => False) hb) (fun h => h)
  exact ⟨k.cell 0, k.cell 1, k.cell 2, k.free 0, k.free 1, k.free 2⟩
theorem rnew_held (a b : Int) (g : Nat) (x y : Value) (w : World) (h0 : w.cell? ⟨g, 0, none⟩ = some x) (h1 : w.cell? ⟨g, 1, none⟩ = some y) : Calls Try.prog 11 #[.int .i64 a, .int .i64 b] w fun e w' =>
    e = .returned (.agg #[.int .i64 (clamp a 0 1000000), .int .i64 (1000 * clamp b 1 256), .int .i64 (1000 * clamp b 1 256)]) ∧ Keeps (fun _ => False) w w' ∧
      w'.cell? ⟨g, 0, none⟩ = some x ∧ w'.cell? ⟨g, 1, none⟩ = some y :=
  (rnew_any a b w).mono fun e w' ⟨he, hb⟩ => ⟨he, .of_below hb,
    (hb.cell (p := ⟨g, 0, none⟩) (World.block_lt_of_cell? w _ h0)).trans h0, (hb.cell (p := ⟨g, 1, none⟩) (World.block_lt_of_cell? w _ h1)).trans h1⟩

set_option maxHeartbeats 2000000 in
set_option maxRecDepth 100000 in
theorem plays_walk (m0 m1 : Int) (A0 : Option Addr) (n cap : Nat) (xs : List Int) (w : World) (hn : n ≤ cap) (hcap : cap ≤ maxLen) (hr : Row .i64 w A0 n xs) :
    Calls Try.prog 4 #[.agg #[.int .i64 m0, .int .i64 m1], .slice A0 n cap] w fun e w' => e = .returned (.bool true) ∧ Below w.heap.size w w' := by
  unfold maxLen at hcap
  have HR := Lib.hid hr
  clear hr
  by_cases c0 : n > 1000
  · go_enter Try.func4, Try.ntmps4
    go_wp2_with fail
    refine (awake_any _).mono ?_
    rintro e W5 ⟨rfl, hb5⟩
    go_wp2_with fail
    go_ret
    exact ⟨rfl, ((Below.refl _ _).alloc (Nat.le_refl _) _).trans (hb5.mono (by simp))⟩
  · have c0' : n ≤ 1000 := by omega
    go_enter Try.func4, Try.ntmps4
    go_upto_region 3 with fail
    have k0 := (box_cells w m0 m1).cell 0
    have k1 := (box_cells w m0 m1).cell 1
    simp only [List.getElem?_toArray, List.getElem?_cons_succ, List.getElem?_cons_zero] at k0 k1
    have hq0 : Keeps (fun _ => False) w (w.alloc (.cells #[.int .i64 m0, .int .i64 m1] 27)) := (Keeps.refl _ _).alloc _
    have hz0 : w.heap.size < (w.alloc (.cells #[.int .i64 m0, .int .i64 m1] 27)).heap.size := by simp
    generalize w.alloc (.cells #[.int .i64 m0, .int .i64 m1] 27) = W at *
    go_cut [5, 6] (fun s5 s6 wx => ∃ gx gb : Nat, s5 = .pointer (some ⟨gx, 0, none⟩) ∧ s6 = .pointer (some ⟨gb, 0, none⟩) ∧ Bk wx gx (clamp m0 0 1000000) (1000 * clamp m1 1 256) (1000 * clamp m1 1 256) ∧
      Blk wx gb 32 #[.int .i64 (clamp m0 0 1000000), .int .i64 (1000 * clamp m1 1 256), .int .i64 (1000 * clamp m1 1 256)] ∧ gx ≠ gb ∧ w.heap.size ≤ gx ∧ w.heap.size ≤ gb ∧ Keeps (fun k => w.heap.size ≤ k) w wx)
    case first =>
      go_region_held3 (fun w' => w'.cell? ⟨w.heap.size, 0, none⟩ = some (.int .i64 m0) ∧ w'.cell? ⟨w.heap.size, 1, none⟩ = some (.int .i64 m1)) (first | exact ⟨by assumption, by assumption⟩ | (refine ⟨?_, ?_⟩ <;> ((repeat rw [World.cell?_setCell_far _ _ _ _ (by first | omega | (simp; omega))]); assumption)) | go_keep)
        (first | (go_at_call 10; refine (new_held _ _ w.heap.size (.int .i64 m0) (.int .i64 m1) _ ?_ ?_).mono ?_; (simp [*]); (simp [*]); rintro e w1 ⟨rfl, hk, hz, hq, k0, k1⟩; have hzz : W.heap.size < w1.heap.size := (by first | exact hz | (simp at hz; omega)); obtain ⟨hc, hf⟩ := bcell hq) | (go_at_call 11; refine (rnew_held _ _ w.heap.size (.int .i64 m0) (.int .i64 m1) _ ?_ ?_).mono ?_; (simp [*]); (simp [*]); rintro e w1 ⟨rfl, hq, k0, k1⟩; obtain ⟨hc, hf⟩ := bcell hq))
      · rename_i v1 hq1 q0 q1 hc1 hf1 hh
        have hkx : Bk v1 W.heap.size _ _ _ := hk
        clear hc hf hc1 hf1 hh k0 k1 q0 q1
        have hall : Keeps (fun k => w.heap.size ≤ k) w w1 := (hq0.mono fun _ _ h => h.elim).trans ((Keeps.refl _ W).drew.trans ((hq1.mono fun _ _ h => h.elim).trans (hq.mono fun _ _ h => h.elim)))
        have HK := Lib.hid hkx
        have HQ := Lib.hid hq
        have HA := Lib.hid hall
        have hz1 := hq.size
        clear hk hkx hq hq1 hq0 hall hz
        go_wp2_with fail
        go_meet
        exact ⟨W.heap.size, w1.heap.size, rfl, rfl, (HK.out.kept HQ.out fun h => h).kept ((Keeps.refl (fun _ => False) _).alloc _) fun h => h, Blk.new _ _ _, by omega, by omega, by omega, HA.out.alloc _⟩
      · rename_i v1 hq1 q0 q1 hc1 hf1 hh
        have hkx : Bk v1 W.heap.size _ _ _ := hk
        clear hc hf hc1 hf1 hh k0 k1 q0 q1
        have hall : Keeps (fun k => w.heap.size ≤ k) w w1 := (hq0.mono fun _ _ h => h.elim).trans ((Keeps.refl _ W).drew.trans ((hq1.mono fun _ _ h => h.elim).trans (((Keeps.refl _ _).alloc _).trans (hq.mono fun _ _ h => h.elim))))
        have hbb := (Blk.new v1 32 #[.int .i64 0, .int .i64 0, .int .i64 0]).kept hq (fun h => h)
        have hkk := (hkx.kept ((Keeps.refl (fun _ => False) _).alloc _) fun h => h).kept hq (fun h => h)
        have HK := Lib.hid hkk
        have HB := Lib.hid hbb
        have HA := Lib.hid hall
        clear hk hkx hq hq1 hq0 hall hz hkk hbb
        go_wp2_with fail
        go_meet
        refine ⟨W.heap.size, v1.heap.size, rfl, rfl, HK.out.kept (S := (· = v1.heap.size)) ((((Keeps.refl _ _).setCell (S := (· = v1.heap.size)) (.inl rfl) _).setCell (.inl rfl) _).setCell (.inl rfl) _) (by omega), ((HB.out.set 0 _).set 1 _).set 2 _, by omega, by omega, by omega, ((HA.out.setCell (.inl (by show w.heap.size ≤ v1.heap.size; omega)) _).setCell (.inl (by show w.heap.size ≤ v1.heap.size; omega)) _).setCell (.inl (by show w.heap.size ≤ v1.heap.size; omega)) _⟩
      · rename_i v1 hq1 q0 q1 hc1 hf1 hh
        have hsz : (W.alloc (.cells #[.int .i64 0, .int .i64 0, .int .i64 0] 32)).drew.heap.size = W.heap.size + 1 := by simp
        have hkx := hk
        rw [hsz] at hkx
        clear hc hf hc1 hf1 hh k0 k1 q0 q1
        have hall : Keeps (fun k => w.heap.size ≤ k) w w1 := (hq0.mono fun _ _ h => h.elim).trans ((((Keeps.refl _ W).alloc _).drew).trans ((hq1.mono fun _ _ h => h.elim).trans (hq.mono fun _ _ h => h.elim)))
        have hbb := (((Blk.new W 32 #[.int .i64 0, .int .i64 0, .int .i64 0]).drew).kept hq1 (fun h => h)).kept hq (fun h => h)
        have hkk := hkx.kept hq (fun h => h)
        have HK := Lib.hid hkk
        have HB := Lib.hid hbb
        have HA := Lib.hid hall
        clear hk hkx hq hq1 hq0 hall hz hkk hbb hsz
        go_wp2_with fail
        go_meet
        refine ⟨W.heap.size + 1, W.heap.size, rfl, rfl, HK.out.kept (S := (· = W.heap.size)) ((((Keeps.refl _ _).setCell (S := (· = W.heap.size)) (.inl rfl) _).setCell (.inl rfl) _).setCell (.inl rfl) _) (by omega), ((HB.out.set 0 _).set 1 _).set 2 _, by omega, by omega, by omega, ((HA.out.setCell (.inl (by show w.heap.size ≤ W.heap.size; omega)) _).setCell (.inl (by show w.heap.size ≤ W.heap.size; omega)) _).setCell (.inl (by show w.heap.size ≤ W.heap.size; omega)) _⟩
    case rest =>
      obtain ⟨gx, gb, rfl, rfl, hk, hb, hne, hg1, hg2, hall⟩ := hcut
      have hgood := good_new m0 m1
      generalize clamp m0 0 1000000 = A at *
      generalize 1000 * clamp m1 1 256 = M at *
      clear k0 k1 hq0 hz0
      have HK := Lib.hid hk
      have HB := Lib.hid hb
      have HA := Lib.hid hall
      have HG := Lib.hid hgood
      clear hk hb hall hgood
      go_wp2_with fail
      go_loopw [7, 8, 9] (fun i _ _ wr => ∃ (k : Nat) (c : Int), k ≤ n ∧ i = .int .i64 k ∧ Bk wr gx A M c ∧ Blk wr gb 32 #[.int .i64 A, .int .i64 M, .int .i64 c] ∧ Good A M c ∧ Keeps (fun k => w.heap.size ≤ k) w wr) (fun i _ _ _ => n - (intOf i).toNat)
      case atStart => exact ⟨0, M, Nat.zero_le _, rfl, HK.out, HB.out, HG.out, HA.out⟩
      case round =>
        obtain ⟨k, c, hk, rfl, hx, hb, hgood, hkeep⟩ := hrel
        by_cases hlt : k < n
        · obtain ⟨b, off, rfl, hbl, hc⟩ := HR.out (by omega)
          obtain ⟨hcell0, hwf⟩ := hc k hlt
          have hcell := (World.cell?_of_block (a := ⟨b, off + k, none⟩) (hkeep.block b hbl (by omega))).trans hcell0
          clear hc hcell0
          generalize xs.getD k 0 = x at *
          have b0 := hb.cell 0
          have b1 := hb.cell 1
          have b2 := hb.cell 2
          have f0 := hb.free 0
          have f1 := hb.free 1
          have f2 := hb.free 2
          simp only [List.getElem?_toArray, List.getElem?_cons_succ, List.getElem?_cons_zero] at b0 b1 b2
          by_cases hneg : x < 0
          · go_wp2_with fail
            refine (rtake_val A M c _ hgood).mono ?_
            rintro e W2 ⟨rfl, hb2⟩
            replace hx := hx.kept (Keeps.of_below (S := fun _ => False) hb2) fun h => h
            replace hb := hb.kept (Keeps.of_below (S := fun _ => False) hb2) fun h => h
            replace hkeep := hkeep.trans (Keeps.of_below hb2)
            have hbl2 : gb < W2.heap.size := hb.lt
            clear b0 b1 b2 f0 f1 f2 hcell hb2
            have b0 := hb.cell 0
            have b1 := hb.cell 1
            have b2 := hb.cell 2
            have f0 := hb.free 0
            have f1 := hb.free 1
            have f2 := hb.free 2
            simp only [List.getElem?_toArray, List.getElem?_cons_succ, List.getElem?_cons_zero] at b0 b1 b2
            have hxl := hx.lt
            have HX := Lib.hid hx
            have HB2 := Lib.hid hb
            have HKP := Lib.hid hkeep
            clear hx hb hkeep
            go_wp2_with fail
            have hx3 := (HX.out.kept (keeps_set3 W2 gb (.int .i64 A) (.int .i64 M) (.int .i64 (rest c))) hne).kept ((Keeps.refl (fun _ => False) _).alloc (.cells #[.int .i64 A, .int .i64 M, .int .i64 (rest c)] 32)) fun h => h
            have hb3 := (HB2.out.set3 (.int .i64 A) (.int .i64 M) (.int .i64 (rest c))).kept ((Keeps.refl (fun _ => False) _).alloc (.cells #[.int .i64 A, .int .i64 M, .int .i64 (rest c)] 32)) fun h => h
            have hk3 := (HKP.out.trans ((keeps_set3 W2 gb (.int .i64 A) (.int .i64 M) (.int .i64 (rest c))).mono fun _ _ h => by omega)).alloc (.cells #[.int .i64 A, .int .i64 M, .int .i64 (rest c)] 32)
            generalize (((W2.setCell ⟨gb, 0, none⟩ (.int .i64 A)).setCell ⟨gb, 1, none⟩ (.int .i64 M)).setCell ⟨gb, 2, none⟩ (.int .i64 (rest c))).alloc (.cells #[.int .i64 A, .int .i64 M, .int .i64 (rest c)] 32) = W3 at *
            clear b0 b1 b2 f0 f1 f2 HX HB2 HKP
            refine (take_any gx A M c _ hx3 hgood).mono ?_
            rintro e W4 ⟨rfl, hx4, hq4, hz4⟩
            have hb4 := hb3.kept hq4 (fun h => hne h.symm)
            have hk4 := hk3.trans (hq4.mono fun _ _ h => by omega)
            have hg4 := hgood.rest
            generalize rest c = c4 at *
            generalize enough c = yes at *
            clear hx3 hb3 hk3 hq4 hz4
            have b2 := hb4.cell 2
            simp only [List.getElem?_toArray, List.getElem?_cons_succ, List.getElem?_cons_zero] at b2
            have HX4 := Lib.hid hx4
            have HB4 := Lib.hid hb4
            have HK4 := Lib.hid hk4
            have HG4 := Lib.hid hg4
            clear hx4 hb4 hk4 hg4
            go_wp2_with fail
            go_quiet ((go_at_call 16; exact Calls.quiet_of_same ((level_any gx A M c4 _ (HX4.out.drewN _)).mono fun _ _ ⟨h1, h2⟩ => ⟨h1, h2.symm⟩)))
            go_wp2_with fail
            go_roundw
            case rel => exact ⟨k + 1, c4, by omega, by go_num, HX4.out.drewN _, HB4.out.drewN _, HG4.out, HK4.out.drewN _⟩
            case measure => simp [intOf]; omega
          · go_wp2_with fail
            refine (tick_any gx A M c x _ hx hgood).mono ?_
            rintro e W2 ⟨rfl, hx2, hq2, hz2⟩
            have hcell2 : W2.cell? ⟨b, off + k, none⟩ = some (.int .i64 x) := (World.cell?_of_block (a := ⟨b, off + k, none⟩) (hq2.block b (Nat.lt_of_lt_of_le hbl hkeep.size) (by omega))).trans hcell
            replace hb := hb.kept hq2 (fun h => hne h.symm)
            replace hkeep := hkeep.trans (hq2.mono fun _ _ h => by omega)
            clear b0 b1 b2 f0 f1 f2 hcell
            have b0 := hb.cell 0
            have b1 := hb.cell 1
            have b2 := hb.cell 2
            have f0 := hb.free 0
            have f1 := hb.free 1
            have f2 := hb.free 2
            simp only [List.getElem?_toArray, List.getElem?_cons_succ, List.getElem?_cons_zero] at b0 b1 b2
            have HX := Lib.hid hx2
            have HB2 := Lib.hid hb
            have HKP := Lib.hid hkeep
            clear hx hx2 hb hkeep hq2 hz2
            have hgbl := HB2.out.lt
            go_wp2_with fail
            go_region_with (go_at_call 15; refine (rtick_val A M c x _ hgood).mono ?_; rintro e W3 ⟨rfl, hb3⟩; obtain ⟨q0, q1, q2, p0, p1, p2⟩ := (after3 HB2.out hb3))
            all_goals
              have hx4 : Bk _ gx A M (later A M c x) := (Blk.kept (w := W2.drew) HX.out (Keeps.of_below (S := fun _ => False) hb3) fun h => h).kept (keeps_set3 W3 gb (.int .i64 A) (.int .i64 M) (.int .i64 (later A M c x))) hne
              have hb4 := (Blk.kept (w := W2.drew) HB2.out (Keeps.of_below (S := fun _ => False) hb3) fun h => h).set3 (.int .i64 A) (.int .i64 M) (.int .i64 (later A M c x))
              have hk4 := (HKP.out.drew.trans (Keeps.of_below hb3)).trans ((keeps_set3 W3 gb (.int .i64 A) (.int .i64 M) (.int .i64 (later A M c x))).mono fun _ _ h => by omega)
              have hg4 := hgood.later x
              clear HX HB2 HKP b0 b1 b2 f0 f1 f2 hb3 q0 q1 q2 p0 p1 p2 hcell2
              generalize ((W3.setCell ⟨gb, 0, none⟩ (.int .i64 A)).setCell ⟨gb, 1, none⟩ (.int .i64 M)).setCell ⟨gb, 2, none⟩ (.int .i64 (later A M c x)) = W4 at *
              generalize later A M c x = c4 at *
              have b2 := hb4.cell 2
              simp only [List.getElem?_toArray, List.getElem?_cons_succ, List.getElem?_cons_zero] at b2
              have HX4 := Lib.hid hx4
              have HB4 := Lib.hid hb4
              have HK4 := Lib.hid hk4
              have HG4 := Lib.hid hg4
              clear hx4 hb4 hk4 hg4
              go_wp2_with fail
              go_quiet ((go_at_call 16; exact Calls.quiet_of_same ((level_any gx A M c4 _ (HX4.out.drewN _)).mono fun _ _ ⟨h1, h2⟩ => ⟨h1, h2.symm⟩)))
              go_wp2_with fail
              go_roundw
              case rel => exact ⟨k + 1, c4, by omega, by go_num, HX4.out.drewN _, HB4.out.drewN _, HG4.out, HK4.out.drewN _⟩
              case measure => simp [intOf]; omega
        · have hk' : k = n := by omega
          clear hlt
          subst hk'
          go_wp2_with fail
          refine (awake_any _).mono ?_
          rintro e W5 ⟨rfl, hb5⟩
          go_wp2_with fail
          go_ret
          exact ⟨rfl, (hkeep.below (Nat.le_refl _) fun _ h => h).trans (hb5.mono hkeep.size)⟩
end Go.Proofs.Ytaiamlbaogjgaaa

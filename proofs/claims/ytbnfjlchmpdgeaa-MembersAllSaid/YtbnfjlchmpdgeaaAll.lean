/-
  The walks of All, of the reference's All, and of Ints. Conditions: what is noted fits int and a moment.
-/
import Derived.Test.YtbnfjlchmpdgeaaRefs
import Derived.OwnWalk
import Derived.Deep.AppendLies
namespace Go.Proofs.Ytbnfjlchmpdgeaa
set_option linter.unusedVariables false
open Go.RowKit

def alls (t : Int) (h : St) (b : Int) (k : Nat) : List Int := ((List.range k).map fun i : Nat => (i : Int)).filter fun n => aliveB t h n b
theorem alls_all (t : Int) (h : St) (b : Int) : alls t h b 8 = allA t h b := rfl
theorem alls_yes {t : Int} {h : St} {b : Int} {k : Nat} (hy : aliveB t h (k : Int) b = true) : alls t h b (k + 1) = alls t h b k ++ [(k : Int)] := by
  unfold alls; rw [List.range_succ, List.map_append, List.filter_append]; simp [hy]
theorem alls_no {t : Int} {h : St} {b : Int} {k : Nat} (hy : aliveB t h (k : Int) b = false) : alls t h b (k + 1) = alls t h b k := by
  unfold alls; rw [List.range_succ, List.map_append, List.filter_append]; simp [hy]
theorem alls_len (t : Int) (h : St) (b : Int) (k : Nat) : (alls t h b k).length ≤ k := by
  unfold alls
  exact Nat.le_trans (List.length_filter_le _ _) (by simp)

/-- A row of the call's own: numbers. -/
def Own (w : World) (base : Nat) (v : Value) (l : List Int) : Prop := w.ownsRow base 3 1 v l.length (l.map (Value.int .i64))
theorem Own.nil_ (w : World) (base : Nat) : Own w base (.slice none 0 0) [] := ⟨rfl, .inl ⟨rfl, rfl⟩⟩
theorem Own.below {w w' : World} {base : Nat} {v : Value} {l : List Int} (h : Own w base v l) (hb : Below w.heap.size w w') : Own w' base v l := by
  refine ⟨h.1, ?_⟩
  rcases h.2 with hn | ⟨g, cap, cur, hv, hg, hh, r⟩
  · exact .inl hn
  · exact .inr ⟨g, cap, cur, hv, hg, by rw [hb.block g (Array.getElem?_eq_some_iff.1 hh).1]; exact hh, r⟩
theorem Own.base {w : World} {b : Nat} {v : Value} {l : List Int} (h : Own w b v l) : ∀ k, v.ownBlock = some k → b ≤ k := by
  intro k hk
  rcases h.2 with ⟨rfl, _⟩ | ⟨g, cap, cur, rfl, hg, _⟩
  · simp [Value.ownBlock] at hk
  · simp [Value.ownBlock] at hk; omega
theorem keeps_grown {w w' : World} {row : Option Nat} {B : Nat} (hg : w.grownBy w' row) (hr : ∀ k, row = some k → B ≤ k) : Keeps (fun k => B ≤ k) w w' :=
  ⟨hg.os, hg.tape, hg.output, hg.size, fun k hk hn => hg.block k hk (fun e => hn (hr k e.symm))⟩
theorem infoInt : (Try.prog.info? 3).map (fun i => (i.zero, i.size, i.bytes)) = some (some (.int .i64 0), 1, 8) := by kernel_rfl

set_option maxHeartbeats 1600000 in
theorem all_any (g : Nat) (t : Int) (h : St) (hf : Fits h) (b : Int) (w : World) (hm : Mem w g t h) : Calls Try.prog 18 #[.pointer (some ⟨g, 0, none⟩), .int .i64 b] w fun e w' =>
    ∃ v, e = .returned v ∧ Own w' w.heap.size v (allA t h b) ∧ Below w.heap.size w w' := by
  have hg := hm.lt
  have HM := Lib.hid hm
  clear hm
  obtain ⟨i0, hi, hz0, hz1, hz2⟩ := info_parts infoInt
  go_enter Try.func18, Try.ntmps18
  go_wp2_with fail
  go_loopw [5, 6, 7] (fun v _ i wr => ∃ k : Nat, k ≤ 8 ∧ i = .int .i64 k ∧ Own wr w.heap.size v (alls t h b k) ∧ Below w.heap.size w wr) (fun _ _ i _ => 8 - (intOf i).toNat)
  case atStart => exact ⟨0, by omega, rfl, Own.nil_ _ _, Below.refl _ _⟩
  case round =>
    obtain ⟨k, hk, rfl, hown, hb⟩ := hrel
    by_cases hlt : k < 8
    · have hm2 : Mem wr g t h := HM.out.kept (Keeps.of_below (S := fun _ => False) hb) fun h => h
      have HO := Lib.hid hown
      clear hown
      go_wp2_with fail
      refine (alive_any g t h hf (k : Int) b _ hm2).mono ?_
      rintro e W2 ⟨rfl, hb2⟩
      have hown2 := HO.out.below hb2
      have hB : Below w.heap.size w W2 := hb.trans (hb2.mono hb.size)
      have hsz := hB.size
      have hlen := alls_len t h b k
      cases hal : aliveB t h (k : Int) b with
      | false =>
        have HN := Lib.hid (alls_no hal)
        clear hal
        go_wp2_with fail
        go_roundw
        case rel => exact ⟨k + 1, by omega, by go_num, by rw [HN.out]; exact hown2, hB⟩
        case measure => simp [intOf]; omega
      | true =>
        have HN := Lib.hid (alls_yes hal)
        have HO2 := Lib.hid hown2
        have HBB := Lib.hid hB
        clear hal hown2 hb hb2 hm2 HO hB
        go_wp2_with (at_builtin; refine wpList_append_own _ rfl _ _ 41 rfl w.heap.size 3 i0 (.int .i64 0) 1 8 Try.underlying41 hi hz0 hz1 hz2 rfl (by decide) _ _ _ rfl (HO2.out.alloc _) ⟨W2.heap.size, 0, none⟩ 1 1 [.int .i64 (k : Int)] rfl rfl ?c1 ?c2 ?c3 ?c4 ?c5 ?_)
        case c1 => exact cell_one_new _ _ _
        case c2 => simp [Value.oneCell']
        case c3 => unfold maxLen; omega
        case c4 => omega
        case c5 => simp; omega
        intro v' W3 hown3 hgrow3 _
        have hown4 : Own W3 w.heap.size v' (alls t h b (k + 1)) := by
          rw [HN.out]; unfold Own; simpa using hown3
        have hk3 : Keeps (fun k => w.heap.size ≤ k) (W2.alloc (.cells #[.int .i64 (k : Int)] 3)) W3 := keeps_grown hgrow3 HO2.out.base
        have hb3 : Below w.heap.size w W3 := HBB.out.trans (((Below.refl w.heap.size W2).alloc hsz _).trans (hk3.below (by simp; omega) fun _ h => h))
        have HO4 := Lib.hid hown4
        have HB3 := Lib.hid hb3
        clear hown3 hgrow3 hk3 hown4 hb3 HO2 HBB
        go_wp2_with fail
        go_roundw
        case rel => exact ⟨k + 1, by omega, by go_num, HO4.out, HB3.out⟩
        case measure => simp [intOf]; omega
    · have hk8 : k = 8 := by omega
      clear hlt
      subst hk8
      go_wp2_with fail
      go_ret
      exact ⟨_, rfl, hown, hb⟩

theorem all_none (b : Int) (w : World) : Calls Try.prog 18 #[.pointer none, .int .i64 b] w fun e w' =>
    e = .returned (.slice none 0 0) ∧ Below w.heap.size w w' := by
  go_enter Try.func18, Try.ntmps18
  go_wp2_with fail
  go_loopw [5, 6, 7] (fun v _ i wr => ∃ k : Nat, k ≤ 8 ∧ i = .int .i64 k ∧ v = .slice none 0 0 ∧ Below w.heap.size w wr) (fun _ _ i _ => 8 - (intOf i).toNat)
  case atStart => exact ⟨0, by omega, rfl, rfl, Below.refl _ _⟩
  case round =>
    obtain ⟨k, hk, rfl, rfl, hb⟩ := hrel
    by_cases hlt : k < 8
    · go_wp2_with fail
      refine (alive_none (k : Int) b _).mono ?_
      rintro e W2 ⟨rfl, hb2⟩
      go_wp2_with fail
      go_roundw
      case rel => exact ⟨k + 1, by omega, by go_num, rfl, hb.trans (hb2.mono hb.size)⟩
      case measure => simp [intOf]; omega
    · go_wp2_with fail
      go_ret
      exact ⟨rfl, hb⟩

set_option maxHeartbeats 1600000 in
theorem rall_any (t : Int) (h : St) (hf : Fits h) (b : Int) (w : World) : Calls Try.prog 19 #[.agg (rc t h), .int .i64 b] w fun e w' =>
    ∃ v, e = .returned v ∧ Own w' w.heap.size v (allA t h b) ∧ Below w.heap.size w w' := by
  obtain ⟨i0, hi, hz0, hz1, hz2⟩ := info_parts infoInt
  go_enter Try.func19, Try.ntmps19
  go_upto_region 1 with fail
  have hbx := boxed w t h
  have hb0 := (Below.refl w.heap.size w).alloc (Nat.le_refl _) (.cells (rc t h) 29)
  generalize w.alloc (.cells (rc t h) 29) = V at *
  have HM := Lib.hid hbx
  have HB0 := Lib.hid hb0
  clear hbx hb0
  go_wp2_with fail
  go_loopw [5, 6] (fun v i wr => ∃ k : Nat, k ≤ 8 ∧ i = .int .i64 k ∧ Own wr (w.heap.size + 1) v (alls t h b k) ∧ Blk wr w.heap.size 29 (rc t h) ∧ Below w.heap.size w wr) (fun _ i _ => 8 - (intOf i).toNat)
  case atStart => exact ⟨0, by omega, rfl, Own.nil_ _ _, HM.out, HB0.out⟩
  case round =>
    obtain ⟨k, hk, rfl, hown, hm2, hb⟩ := hrel
    by_cases hlt : k < 8
    · have HO := Lib.hid hown
      have HM2 := Lib.hid hm2
      clear hown hm2
      go_wp2_with (refine wpList_load_row rfl 29 _ rfl w.heap.size rfl 29 (rc t h) (0, 0) _ HM2.out Try.underlying29 rfl info29 ?_)
      refine (ralive_any t h hf (k : Int) b _).mono ?_
      rintro e W2 ⟨rfl, hb2⟩
      have hown2 := HO.out.below hb2
      have hB : Below w.heap.size w W2 := hb.trans (hb2.mono hb.size)
      have hsz := hB.size
      have hm3 := HM2.out.kept (Keeps.of_below (S := fun _ => False) hb2) fun h => h
      have hmlt := hm3.lt
      have hlen := alls_len t h b k
      cases hal : aliveB t h (k : Int) b with
      | false =>
        have HN := Lib.hid (alls_no hal)
        clear hal
        go_wp2_with fail
        go_roundw
        case rel => exact ⟨k + 1, by omega, by go_num, by rw [HN.out]; exact hown2, hm3, hB⟩
        case measure => simp [intOf]; omega
      | true =>
        have HN := Lib.hid (alls_yes hal)
        have HO2 := Lib.hid hown2
        have HBB := Lib.hid hB
        have HM3 := Lib.hid hm3
        clear hal hown2 hb hb2 HO hB hm3
        go_wp2_with (at_builtin; refine wpList_append_own _ rfl _ _ 41 rfl (w.heap.size + 1) 3 i0 (.int .i64 0) 1 8 Try.underlying41 hi hz0 hz1 hz2 rfl (by decide) _ _ _ rfl (HO2.out.alloc _) ⟨W2.heap.size, 0, none⟩ 1 1 [.int .i64 (k : Int)] rfl rfl ?c1 ?c2 ?c3 ?c4 ?c5 ?_)
        case c1 => exact cell_one_new _ _ _
        case c2 => simp [Value.oneCell']
        case c3 => unfold maxLen; omega
        case c4 => omega
        case c5 => simp; omega
        intro v' W3 hown3 hgrow3 _
        have hown4 : Own W3 (w.heap.size + 1) v' (alls t h b (k + 1)) := by
          rw [HN.out]; unfold Own; simpa using hown3
        have hk3 : Keeps (fun k => w.heap.size + 1 ≤ k) (W2.alloc (.cells #[.int .i64 (k : Int)] 3)) W3 := keeps_grown hgrow3 HO2.out.base
        have hb3 : Below w.heap.size w W3 := HBB.out.trans (((Below.refl w.heap.size W2).alloc hsz _).trans (hk3.below (by simp; omega) fun _ h => by omega))
        have hm4 := (HM3.out.kept ((Keeps.refl (fun _ => False) _).alloc _) fun h => h).kept hk3 (by omega)
        have HM4 := Lib.hid hm4
        clear hm4
        have HO4 := Lib.hid hown4
        have HB3 := Lib.hid hb3
        clear hown3 hgrow3 hk3 hown4 hb3 HO2 HBB
        go_wp2_with fail
        go_roundw
        case rel => exact ⟨k + 1, by omega, by go_num, HO4.out, HM4.out, HB3.out⟩
        case measure => simp [intOf]; omega
    · have hk8 : k = 8 := by omega
      clear hlt
      subst hk8
      go_wp2_with fail
      go_ret
      exact ⟨_, rfl, ⟨hown.1, hown.2.imp id fun ⟨g, cap, cur, hv, hg, r⟩ => ⟨g, cap, cur, hv, by omega, r⟩⟩, hb⟩
end Go.Proofs.Ytbnfjlchmpdgeaa

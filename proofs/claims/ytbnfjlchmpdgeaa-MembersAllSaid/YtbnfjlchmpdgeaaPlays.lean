/-
  MembersPlays, walked. No condition but what fits int.
-/
import Derived.Test.YtbnfjlchmpdgeaaLawAll
namespace Go.Proofs.Ytbnfjlchmpdgeaa
set_option linter.unusedVariables false
open Go.RowKit

/-- A reference's members lie there; as a value. -/
def Rw (w : World) (v : Value) : Prop := ∃ g t h, v = .pointer (some ⟨g, 0, none⟩) ∧ Blk w g 29 (rc t h)
def LV (w : World) (v : Value) : Value := match v with
  | .pointer (some a) => (match w.heap[a.block]? with
    | some (.cells cs _ _) => .agg cs
    | _ => undef)
  | _ => undef
theorem LV_row {w : World} {g : Nat} {t : Int} {h : St} (hb : Blk w g 29 (rc t h)) : LV w (.pointer (some ⟨g, 0, none⟩)) = .agg (rc t h) := by
  unfold LV; simp only [show w.heap[g]? = _ from hb]
theorem exec_ld {ρ : Operand → Value} {k : Nat} {d : Option Tmp} {ty : TypeId} {pos : String} {af : Array Edge} {gd : Option (Nat × Bool)} {w : World} (hr : Rw w (ρ (.tmp k))) :
    (execOp ρ ⟨d, .load 29 (.tmp k), ty, pos, af, gd⟩).run Try.prog w = .ok (.value (LV w (ρ (.tmp k)))) w := by
  obtain ⟨g, t, h, hv, hb⟩ := hr
  rw [hv, LV_row hb]
  unfold execOp
  simp only [hv, Instr.loadAt, Instr.sureAddr, Sem.run_bind, Sem.run_pure, Result.andThen_ok, run_loadVar_row w g 29 29 (rc t h) (0, 0) _ hb Try.underlying29 rfl info29]
attribute [local go_sem ↓] exec_ld

/-- What the law's calls keep, but for the members themselves: its word, the reference's members. -/
structure HX (o : World) (base gw : Nat) (x y z : Int) (gr : Nat) (t : Int) (h : St) (w : World) : Prop where
  k0 : w.cell? ⟨gw, 0, none⟩ = some (.int .i64 x)
  k1 : w.cell? ⟨gw, 1, none⟩ = some (.int .i64 y)
  k2 : w.cell? ⟨gw, 2, none⟩ = some (.int .i64 z)
  r : Blk w gr 29 (rc t h)
  lo : Keeps (fun k => base ≤ k) o w
theorem HX.keeps {S : Nat → Prop} {o : World} {base gw : Nat} {x y z : Int} {gr : Nat} {t : Int} {h : St} {w w' : World} (hx : HX o base gw x y z gr t h w) (k : Keeps S w w') (h1 : ¬ S gw) (h2 : ¬ S gr) (h3 : ∀ i, S i → base ≤ i) : HX o base gw x y z gr t h w' := by
  have e : w'.heap[gw]? = w.heap[gw]? := k.block gw (World.block_lt_of_cell? w _ hx.k0) h1
  exact ⟨(World.cell?_of_block (a := ⟨gw, 0, none⟩) e).trans hx.k0, (World.cell?_of_block (a := ⟨gw, 1, none⟩) e).trans hx.k1, (World.cell?_of_block (a := ⟨gw, 2, none⟩) e).trans hx.k2, hx.r.kept k h2, hx.lo.trans (k.mono fun _ _ h => h3 _ h)⟩
theorem HX.below {o : World} {base gw : Nat} {x y z : Int} {gr : Nat} {t : Int} {h : St} {w w' : World} (hx : HX o base gw x y z gr t h w) (k : Below w.heap.size w w') : HX o base gw x y z gr t h w' :=
  hx.keeps (Keeps.of_below (S := fun _ => False) k) (fun h => h) (fun h => h) fun _ h => h.elim
theorem HX.drew {o : World} {base gw : Nat} {x y z : Int} {gr : Nat} {t : Int} {h : St} {w : World} (hx : HX o base gw x y z gr t h w) : HX o base gw x y z gr t h w.drew := ⟨hx.k0, hx.k1, hx.k2, hx.r, hx.lo.drew⟩
theorem HX.all {o : World} {base gw : Nat} {x y z : Int} {gr : Nat} {t : Int} {h : St} {w : World} (hx : HX o base gw x y z gr t h w) :
    w.cell? ⟨gw, 0, none⟩ = some (.int .i64 x) ∧ w.cell? ⟨gw, 1, none⟩ = some (.int .i64 y) ∧ w.cell? ⟨gw, 2, none⟩ = some (.int .i64 z) ∧ Rw w (.pointer (some ⟨gr, 0, none⟩)) ∧ LV w (.pointer (some ⟨gr, 0, none⟩)) = .agg (rc t h) ∧ HX o base gw x y z gr t h w := ⟨hx.k0, hx.k1, hx.k2, ⟨gr, t, h, rfl, hx.r⟩, LV_row hx.r, hx⟩
theorem HX.of {o : World} {base gw : Nat} {x y z : Int} {gr : Nat} {t : Int} {h : St} {w : World} (hx : w.cell? ⟨gw, 0, none⟩ = some (.int .i64 x) ∧ w.cell? ⟨gw, 1, none⟩ = some (.int .i64 y) ∧ w.cell? ⟨gw, 2, none⟩ = some (.int .i64 z) ∧ Rw w (.pointer (some ⟨gr, 0, none⟩)) ∧ LV w (.pointer (some ⟨gr, 0, none⟩)) = .agg (rc t h) ∧ HX o base gw x y z gr t h w) : HX o base gw x y z gr t h w := hx.2.2.2.2.2
/-- A call's end: what is kept, and the members. -/
def HXTo (o : World) (base gw : Nat) (x y z : Int) (gr g : Nat) (t : Int) (h : St) (v : Value) (e : Ending) (w : World) : Prop :=
  e = .returned v ∧ (w.cell? ⟨gw, 0, none⟩ = some (.int .i64 x) ∧ w.cell? ⟨gw, 1, none⟩ = some (.int .i64 y) ∧ w.cell? ⟨gw, 2, none⟩ = some (.int .i64 z) ∧ Rw w (.pointer (some ⟨gr, 0, none⟩)) ∧ LV w (.pointer (some ⟨gr, 0, none⟩)) = .agg (rc t h) ∧ HX o base gw x y z gr t h w) ∧ Mem w g t h
theorem HX.hear {o : World} {base gw : Nat} {x y z : Int} {gr : Nat} {t : Int} {h : St} {w : World} (hx : HX o base gw x y z gr t h w) {g : Nat} {h0 : St} {ok : Bool} (hm : Mem w g t h0) (hf : Fits h0) (H1 : Hid (hearS h0 x y z = h)) (H2 : Hid (hearB h0 x y z = ok)) (n1 : gw ≠ g) (n2 : gr ≠ g) (n3 : base ≤ g) :
    Calls Try.prog 12 #[.pointer (some ⟨g, 0, none⟩), .int .i64 x, .int .i64 y, .int .i64 z] w (HXTo o base gw x y z gr g t h (.bool ok)) :=
  (hear_any g t h0 hf x y z w hm).mono fun e w' ⟨he, hm', hk⟩ => by
    rw [H2.out] at he
    rw [H1.out] at hm'
    have q := hx.keeps hk n1 n2 (fun i hi => hi ▸ n3)
    exact ⟨he, q.all, hm'⟩
theorem HX.to {o : World} {base gw : Nat} {x y z : Int} {gr : Nat} {t : Int} {h : St} {w : World} (hx : HX o base gw x y z gr t h w) {g : Nat} (hm : Mem w g t h) {f : Nat} {args : Array Value} {v : Value} (hc : Calls Try.prog f args w fun e w' => e = .returned v ∧ Below w.heap.size w w') :
    Calls Try.prog f args w (HXTo o base gw x y z gr g t h v) :=
  hc.mono fun e w' ⟨he, hb⟩ => by
    have q := hx.below hb
    exact ⟨he, q.all, hm.below hb⟩
theorem HX.alive {o : World} {base gw : Nat} {x y z : Int} {gr : Nat} {t : Int} {h : St} {w : World} (hx : HX o base gw x y z gr t h w) {g : Nat} (hm : Mem w g t h) (hf : Fits h) {a b : Int} {v : Bool} (H : Hid (aliveB t h a b = v)) :
    Calls Try.prog 13 #[.pointer (some ⟨g, 0, none⟩), .int .i64 a, .int .i64 b] w (HXTo o base gw x y z gr g t h (.bool v)) := HX.to hx hm (alive_at hf H w hm)
theorem HX.ralive {o : World} {base gw : Nat} {x y z : Int} {gr : Nat} {t : Int} {h : St} {w : World} (hx : HX o base gw x y z gr t h w) {g : Nat} (hm : Mem w g t h) (hf : Fits h) {a b : Int} {v : Bool} (H : Hid (aliveB t h a b = v)) :
    Calls Try.prog 14 #[.agg (rc t h), .int .i64 a, .int .i64 b] w (HXTo o base gw x y z gr g t h (.bool v)) := HX.to hx hm (by rw [← H.out]; exact ralive_any t h hf a b w)
theorem HX.inc {o : World} {base gw : Nat} {x y z : Int} {gr : Nat} {t : Int} {h : St} {w : World} (hx : HX o base gw x y z gr t h w) {g : Nat} (hm : Mem w g t h) {a : Int} {v : Int} (H : Hid (incA h a = v)) :
    Calls Try.prog 15 #[.pointer (some ⟨g, 0, none⟩), .int .i64 a] w (HXTo o base gw x y z gr g t h (.int .i64 v)) := HX.to hx hm (inc_at H w hm)
theorem HX.rinc {o : World} {base gw : Nat} {x y z : Int} {gr : Nat} {t : Int} {h : St} {w : World} (hx : HX o base gw x y z gr t h w) {g : Nat} (hm : Mem w g t h) {a : Int} {v : Int} (H : Hid (incA h a = v)) :
    Calls Try.prog 16 #[.agg (rc t h), .int .i64 a] w (HXTo o base gw x y z gr g t h (.int .i64 v)) := HX.to hx hm (by rw [← H.out]; exact rinc_any t h a w)
/-- What the law's last line keeps. -/
structure HY (o : World) (base gr g : Nat) (t : Int) (h : St) (w : World) : Prop where
  r : Blk w gr 29 (rc t h)
  m : Mem w g t h
  lo : Below base o w
theorem HY.below {o : World} {base gr g : Nat} {t : Int} {h : St} {w w' : World} (hx : HY o base gr g t h w) (k : Below w.heap.size w w') (hb : base ≤ o.heap.size) : HY o base gr g t h w' :=
  ⟨hx.r.kept (Keeps.of_below (S := fun _ => False) k) fun h => h, hx.m.below k, hx.lo.trans (k.mono (Nat.le_trans hb hx.lo.size))⟩
theorem HY.drew {o : World} {base gr g : Nat} {t : Int} {h : St} {w : World} (hx : HY o base gr g t h w) : HY o base gr g t h w.drew := ⟨hx.r, hx.m, hx.lo.drew⟩
theorem HY.all_ {o : World} {base gr g : Nat} {t : Int} {h : St} {w : World} (hx : HY o base gr g t h w) :
    Rw w (.pointer (some ⟨gr, 0, none⟩)) ∧ LV w (.pointer (some ⟨gr, 0, none⟩)) = .agg (rc t h) ∧ HY o base gr g t h w := ⟨⟨gr, t, h, rfl, hx.r⟩, LV_row hx.r, hx⟩
/-- An end: what is kept. -/
def HYTo (o : World) (base gr g : Nat) (t : Int) (h : St) (w : World) : Prop :=
  Rw w (.pointer (some ⟨gr, 0, none⟩)) ∧ LV w (.pointer (some ⟨gr, 0, none⟩)) = .agg (rc t h) ∧ HY o base gr g t h w
theorem HY.all18 {o : World} {base gr g : Nat} {t : Int} {h : St} {w : World} (hx : HYTo o base gr g t h w) (hb : base ≤ o.heap.size) (hf : Fits h) (b : Int) :
    Calls Try.prog 18 #[.pointer (some ⟨g, 0, none⟩), .int .i64 b] w fun e w' => ∃ v, e = .returned v ∧ Rd w' v (allA t h b) ∧ HYTo o base gr g t h w' :=
  (all_any g t h hf b w hx.2.2.m).mono fun e w' ⟨v, he, ho, hk⟩ => ⟨v, he, ho.rd, (hx.2.2.below hk hb).all_⟩
theorem HY.all19 {o : World} {base gr g : Nat} {t : Int} {h : St} {w : World} (hx : HYTo o base gr g t h w) (hb : base ≤ o.heap.size) (hf : Fits h) (b : Int) {v : Value} (hr : Rd w v (allA t h b)) :
    Calls Try.prog 19 #[.agg (rc t h), .int .i64 b] w fun e w' => ∃ v2, e = .returned v2 ∧ Rd w' v (allA t h b) ∧ Rd w' v2 (allA t h b) ∧ HYTo o base gr g t h w' :=
  (rall_any t h hf b w).mono fun e w' ⟨v2, he, ho, hk⟩ => ⟨v2, he, hr.below hk, ho.rd, (hx.2.2.below hk hb).all_⟩
theorem HY.ints {o : World} {base gr g : Nat} {t : Int} {h : St} {w : World} (hx : HYTo o base gr g t h w) {v v2 : Value} {b : Int} (hr : Rd w v (allA t h b)) (hr2 : Rd w v2 (allA t h b)) :
    Calls Try.prog 17 #[v, v2] w fun e w' => e = .returned (.bool true) ∧ HYTo o base gr g t h w' :=
  (ints_any v v2 _ _ w hr hr2 (Nat.le_trans (allA_len t h b) (by omega)) (Nat.le_trans (allA_len t h b) (by omega))).mono fun e w' ⟨he, q, hw⟩ => by
    subst hw
    rw [same_all rfl fun _ _ => rfl] at he
    exact ⟨he, HY.all_ ⟨hx.2.2.r, hx.2.2.m, hx.2.2.lo.drewN q⟩⟩
theorem HY.wake {o : World} {base gr g : Nat} {t : Int} {h : St} {w : World} (hx : HYTo o base gr g t h w) (hb : base ≤ o.heap.size) :
    Calls Try.prog 8 #[] w fun e w' => e = .returned (.bool true) ∧ HYTo o base gr g t h w' :=
  (awake_any w).mono fun e w' ⟨he, hk⟩ => ⟨he, (hx.2.2.below hk hb).all_⟩
theorem Mem.kept {S : Nat → Prop} {w w' : World} {g : Nat} {t : Int} {h : St} (hm : Mem w g t h) (k : Keeps S w w') (hs : ¬ S g) : Mem w' g t h := Blk.kept hm k hs

set_option maxHeartbeats 1600000 in
set_option maxRecDepth 100000 in
theorem plays_true (t : Int) (A0 : Option Addr) (n cap : Nat) (now : Int) (w : World) (hn : n ≤ cap) (hcap : cap ≤ maxLen) (hr : Row w A0 n) :
    Calls Try.prog 3 #[.int .i64 t, .slice A0 n cap, .int .i64 now] w fun e w' => e = .returned (.bool true) ∧ Below w.heap.size w w' := by
  unfold maxLen at hcap
  have HR := Lib.hid hr
  clear hr
  by_cases c0 : n > 300
  · go_enter Try.func3, Try.ntmps3
    go_wp2_with fail
    refine (awake_any _).mono ?_
    rintro e W5 ⟨rfl, hb5⟩
    go_wp2_with fail
    go_ret
    exact ⟨rfl, hb5⟩
  · have c0' : n ≤ 300 := by omega
    have hd : decide ((300 : Int) < (n : Int)) = false := decide_eq_false (by omega)
    go_enter Try.func3, Try.ntmps3
    go_wp2_with fail
    refine (new_any t _).mono ?_
    rintro e W1 ⟨rfl, hm, hz, hq⟩
    go_wp2_with fail
    refine (rnew_any t _).mono ?_
    rintro e W2 ⟨rfl, hb2⟩
    replace hm := hm.below hb2
    generalize hg : w.heap.size = g at *
    generalize clamp t 0 1048576 = t' at *
    have hmlt := hm.lt
    have hall : Keeps (fun k => g ≤ k) w W2 := (hq.mono fun _ _ h => h.elim).trans (Keeps.of_below hb2)
    generalize hgr : W2.heap.size = gr at *
    have hk1 : Blk (W2.alloc (.cells rz 29)) gr 29 rz := hgr ▸ Blk.new W2 29 rz
    have hk2 := Blk.setAll (rc t' St.none) hk1 rfl
    have hm2 : Mem ((W2.alloc (.cells rz 29)).setCells gr 0 (rc t' St.none).toList) g t' St.none := Blk.kept hm (Keeps.setCells (S := fun k => gr ≤ k) _ 0 ((Keeps.refl _ W2).alloc _) (.inl (Nat.le_refl _))) (by omega)
    have hall2 : Keeps (fun k => g ≤ k) w ((W2.alloc (.cells rz 29)).setCells gr 0 (rc t' St.none).toList) := Keeps.setCells _ 0 (hall.alloc _) (.inl (by omega))
    have HW := Lib.hid hk1.there
    clear hk1 hall hm hb2 hq hz
    go_wp2_with (refine wpList_store_mid rfl 29 _ _ rfl gr 0 (rc t' St.none) rfl rfl HW.out info29 (rc_one _ _) ?_)
    show Code.wp _ _ _ _ ((W2.alloc (.cells rz 29)).setCells gr 0 (rc t' St.none).toList)
    generalize (W2.alloc (.cells rz 29)).setCells gr 0 (rc t' St.none).toList = W3 at *
    have HK := Lib.hid hk2
    have HM := Lib.hid hm2
    have HA := Lib.hid hall2
    clear hk2 hm2 hall2
    go_loopw [9] (fun i wr => ∃ (k : Nat) (h : St), k ≤ n ∧ i = .int .i64 k ∧ Fits h ∧ Mem wr g t' h ∧ Blk wr gr 29 (rc t' h) ∧ Keeps (fun k => g ≤ k) w wr) (fun i _ => n - (intOf i).toNat)
    case atStart => exact ⟨0, _, Nat.zero_le _, rfl, Fits.none_, HM.out, HK.out, HA.out⟩
    case round =>
      obtain ⟨k, h, hk, rfl, hf, hm, hr, hkeep⟩ := hrel
      by_cases hlt : k < n
      · obtain ⟨b, off, rfl, hbl, hc⟩ := HR.out (by omega)
        obtain ⟨x, y, z, hw, hyb⟩ := hc k hlt
        replace hw := hw.keeps hkeep (by omega)
        clear hc
        obtain ⟨k0, k1, k2⟩ := hw
        have hrl := hr.lt
        have hml := hm.lt
        have HM2 := Lib.hid hm
        have HR2 := Lib.hid hr
        have HK2 := Lib.hid hkeep
        have hgk := hkeep.size
        clear hm hr hkeep
        go_upto_region 8 with fail
        have hw := Wd.new wr x y z
        have hm := HM2.out.kept ((Keeps.refl (fun _ => False) wr).alloc (.cells #[.int .i64 x, .int .i64 y, .int .i64 z] 32)) fun h => h
        have hr := HR2.out.kept ((Keeps.refl (fun _ => False) wr).alloc (.cells #[.int .i64 x, .int .i64 y, .int .i64 z] 32)) fun h => h
        have hkeep := HK2.out.alloc (.cells #[.int .i64 x, .int .i64 y, .int .i64 z] 32)
        have hbV : wr.heap.size < (wr.alloc (.cells #[.int .i64 x, .int .i64 y, .int .i64 z] 32)).heap.size := by simp
        generalize wr.alloc (.cells #[.int .i64 x, .int .i64 y, .int .i64 z] 32) = V at *
        generalize wr.heap.size = gb at *
        clear HM2 HR2 HK2 k0 k1 k2
        obtain ⟨k0, k1, k2⟩ := hw.cells
        have HM2 := Lib.hid hm
        have HR2 := Lib.hid hr
        have HK2 := Lib.hid hkeep
        have HW2 := Lib.hid hw
        clear hm hr hkeep hw
        go_wp2_with (refine wpList_load_row rfl 29 _ rfl gr rfl 29 (rc t' h) (0, 0) _ HR2.out Try.underlying29 rfl info29 ?_)
        refine (rhear_any t' h x y z _).mono ?_
        rintro e V2 ⟨rfl, hb2⟩
        have hm := HM2.out.below hb2
        have hr := HR2.out.kept (Keeps.of_below (S := fun _ => False) hb2) fun h => h
        have hw := HW2.out.below hb2
        have hkeep := HK2.out.trans (Keeps.of_below hb2)
        have hV2 := hb2.size
        clear k0 k1 k2 HM2 HR2 HW2 HK2
        obtain ⟨h', hh'⟩ : ∃ h', hearS h x y z = h' := ⟨_, rfl⟩
        obtain ⟨ok, hok⟩ : ∃ ok, hearB h x y z = ok := ⟨_, rfl⟩
        have hf' : Fits h' := hh' ▸ hf.hear x y z hyb
        rw [hh', hok]
        have HH := Lib.hid hh'
        have HOK := Lib.hid hok
        clear hh' hok
        have ha1 : Blk (V2.alloc (.cells rz 29)) V2.heap.size 29 rz := Blk.new V2 29 rz
        have ha2 := Blk.setAll (rc t' h') ha1 rfl
        have hkk : Keeps (fun k => V2.heap.size ≤ k) V2 ((V2.alloc (.cells rz 29)).setCells V2.heap.size 0 (rc t' h').toList) := Keeps.setCells _ 0 ((Keeps.refl _ V2).alloc _) (.inl (Nat.le_refl _))
        have hm3 := hm.kept hkk (by omega)
        have hr3 := hr.kept hkk (by omega)
        have hw3 := hw.kept hkk (by omega)
        have hk3 : Keeps (fun k => g ≤ k) w ((V2.alloc (.cells rz 29)).setCells V2.heap.size 0 (rc t' h').toList) := hkeep.trans (hkk.mono fun _ _ h => by omega)
        have HT : Hid ((V2.alloc (.cells rz 29)).there V2.heap.size 0 25) := Lib.hid ha1.there
        have HA2 := Lib.hid ha2
        have HM3 := Lib.hid hm3
        have HR3 := Lib.hid hr3
        have HW3 := Lib.hid hw3
        have HK3 := Lib.hid hk3
        clear ha1 ha2 hm hr hw hkeep hm3 hr3 hw3 hk3 hkk hb2
        dsimp only
        iterate 13 (first | go_values | go_skip | go_guarded | go_step | go_upon)
        refine wpList_store_mid rfl 29 _ _ rfl V2.heap.size 0 (rc t' h') rfl rfl ?hx info29 (rc_one _ _) ?_
        case hx => rw [rc_size]; exact HT.out
        go_upto_region 9 with fail
        show Code.wp _ _ _ _ ((V2.alloc (.cells rz 29)).setCells V2.heap.size 0 (rc t' h').toList)
        generalize (V2.alloc (.cells rz 29)).setCells V2.heap.size 0 (rc t' h').toList = V3 at *
        have HT2 : Hid (V3.there gr 0 25) := Lib.hid HR3.out.there
        have hr4 := HR3.out.setAll (rc t' h') rfl
        have hkk : Keeps (· = gr) V3 (V3.setCells gr 0 (rc t' h').toList) := Keeps.setCells (S := (· = gr)) _ 0 (Keeps.refl _ V3) (.inl rfl)
        have hm4 := HM3.out.kept hkk (by omega)
        have hw4 := HW3.out.kept hkk (by omega)
        have hk4 : Keeps (fun k => g ≤ k) w (V3.setCells gr 0 (rc t' h').toList) := HK3.out.trans (hkk.mono fun _ _ h => by omega)
        have HR4 := Lib.hid hr4
        have HM4 := Lib.hid hm4
        have HW4 := Lib.hid hw4
        have HK4 := Lib.hid hk4
        clear hr4 hm4 hw4 hk4 hkk
        go_wp2_with (first | (refine wpList_load_row rfl 29 _ rfl V2.heap.size rfl 29 (rc t' h') (0, 0) _ HA2.out Try.underlying29 rfl info29 ?_) | (refine wpList_store_mid rfl 29 _ _ rfl gr 0 (rc t' h') rfl rfl HT2.out info29 (rc_one _ _) ?_))
        generalize V3.setCells gr 0 (rc t' h').toList = V4 at *
        have hX : HX w g gb x y z gr t' h' V4 := ⟨HW4.out.cells.1, HW4.out.cells.2.1, HW4.out.cells.2.2, HR4.out, HK4.out⟩
        obtain ⟨k0, k1, k2⟩ := HW4.out.cells
        dsimp only [Act.put]
        obtain ⟨va, hva⟩ : ∃ v, aliveB t' h' x now = v := ⟨_, rfl⟩
        obtain ⟨vi, hvi⟩ : ∃ v, incA h' x = v := ⟨_, rfl⟩
        have HVA := Lib.hid hva
        have HVI := Lib.hid hvi
        clear hva hvi
        have hm0 : Mem V4.drew g t' h := HM4.out.drew
        have n1 : gb ≠ g := by omega
        have n2 : gr ≠ g := by omega
        clear HT HT2
        have hS := hX.drew.all
        clear k0 k1 k2
        go_region_held3 (fun w' => w'.cell? ⟨gb, 0, none⟩ = some (.int .i64 x) ∧ w'.cell? ⟨gb, 1, none⟩ = some (.int .i64 y) ∧ w'.cell? ⟨gb, 2, none⟩ = some (.int .i64 z) ∧ Rw w' (.pointer (some ⟨gr, 0, none⟩)) ∧ LV w' (.pointer (some ⟨gr, 0, none⟩)) = .agg (rc t' h') ∧ HX w g gb x y z gr t' h' w') (first | assumption | exact hS)
          (first | (go_at_call 12; refine (HX.hear (o := w) (base := g) (gw := gb) (x := x) (y := y) (z := z) (gr := gr) (g := g) (HX.of (by assumption)) hm0 hf HH HOK n1 n2 (Nat.le_refl _)).mono ?_; rintro e w1 ⟨rfl, hS, hmx⟩) | (go_at_call 13; refine (HX.alive (o := w) (base := g) (gw := gb) (x := x) (y := y) (z := z) (gr := gr) (g := g) (HX.of (by assumption)) (by assumption) hf' HVA).mono ?_; rintro e w1 ⟨rfl, hS, hmx⟩) | (go_at_call 14; refine (HX.ralive (o := w) (base := g) (gw := gb) (x := x) (y := y) (z := z) (gr := gr) (g := g) (HX.of (by assumption)) (by assumption) hf' HVA).mono ?_; rintro e w1 ⟨rfl, hS, hmx⟩) | (go_at_call 15; refine (HX.inc (o := w) (base := g) (gw := gb) (x := x) (y := y) (z := z) (gr := gr) (g := g) (HX.of (by assumption)) (by assumption) HVI).mono ?_; rintro e w1 ⟨rfl, hS, hmx⟩) | (go_at_call 16; refine (HX.rinc (o := w) (base := g) (gw := gb) (x := x) (y := y) (z := z) (gr := gr) (g := g) (HX.of (by assumption)) (by assumption) HVI).mono ?_; rintro e w1 ⟨rfl, hS, hmx⟩))
        obtain ⟨-, -, -, -, -, hX1⟩ := hS
        have HM5 := Lib.hid hmx
        have HX5 := Lib.hid hX1
        clear hmx hX1
        go_wp2_with fail
        go_roundw
        case rel => exact ⟨k + 1, h', by omega, by go_num, hf', HM5.out, HX5.out.r, HX5.out.lo⟩
        case measure => simp [intOf]; omega
      · have hkn : k = n := by omega
        clear hlt
        subst hkn
        have hbl : Below w.heap.size w wr := Keeps.below hkeep (Nat.le_refl _) fun _ h => by omega
        have hlast : Ending.returned (.bool true) = .returned (.bool true) ∧ Below w.heap.size w w := ⟨rfl, Below.refl _ _⟩
        have hY : HY w w.heap.size gr g t' h wr := ⟨hr, hm, hbl⟩
        have hle : w.heap.size ≤ w.heap.size := Nat.le_refl _
        go_upto_region 12 with fail
        have hS := hY.drew.all_
        clear hY hbl hm hr hkeep
        go_region_held3 (fun w' => Rw w' (.pointer (some ⟨gr, 0, none⟩)) ∧ LV w' (.pointer (some ⟨gr, 0, none⟩)) = .agg (rc t' h) ∧ HY w w.heap.size gr g t' h w') (first | assumption | exact hS)
          (first | (go_at_call 18; refine (HY.all18 (o := w) (base := w.heap.size) (gr := gr) (by assumption) (Nat.le_refl _) hf now).mono ?_; rintro e w1 ⟨v1, rfl, hrd, hS⟩; unfold HYTo at hS) | (go_at_call 19; refine (HY.all19 (o := w) (base := w.heap.size) (gr := gr) (g := g) (by assumption) (Nat.le_refl _) hf now (by assumption)).mono ?_; rintro e w1 ⟨v2, rfl, hrd, hrd2, hS⟩; unfold HYTo at hS) | (go_at_call 17; refine (HY.ints (o := w) (base := w.heap.size) (gr := gr) (g := g) (t := t') (h := h) (b := now) (by assumption) (by assumption) (by assumption)).mono ?_; rintro e w1 ⟨rfl, hS⟩; unfold HYTo at hS) | (go_at_call 8; refine (HY.wake (o := w) (base := w.heap.size) (gr := gr) (g := g) (t := t') (h := h) (by assumption) (Nat.le_refl _)).mono ?_; rintro e w1 ⟨rfl, hS⟩; unfold HYTo at hS))
        obtain ⟨-, -, hY⟩ := hS
        go_wp2_with fail
        go_ret
        exact ⟨rfl, hY.lo⟩
end Go.Proofs.Ytbnfjlchmpdgeaa

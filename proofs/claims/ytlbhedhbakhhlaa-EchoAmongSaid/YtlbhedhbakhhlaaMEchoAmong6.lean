/- EchoAmong: joined texts (6 of 6) of the proof that the given statement of this claim holds, for every input, without any condition of its own. -/
import Derived.Test.YtlbhedhbakhhlaaMEchoAmong2
import Derived.Test.YtlbhedhbakhhlaaMEchoAmong3
import Derived.Test.YtlbhedhbakhhlaaMEchoAmong5
import Derived.Test.YtlbhedhbakhhlaaMEchoAmong4
import Derived.Lib.SlicesCompact
import Derived.KernelRfl
import Derived.Test.YtlbhedhbakhhlaaRows
import Derived.WalkKit
import Derived.ProofKit
import Derived.OpenShut
import Derived.ShutString
import Derived.ChangeOld
import Derived.Below
import Derived.SizedLaws
import Derived.Test.YtlbhedhbakhhlaaMEchoAmong1
set_option linter.unusedVariables false
set_option linter.unusedSimpArgs false

namespace Go.Proofs.Ytlbhedhbakhhlaa.Q
open Go.RowKit Go.Proofs.YtlbhedhbakhhlaaW.PrintWords Go.Proofs.YtlbhedhbakhhlaaW.PrintLast Go.Proofs.YtlbhedhbakhhlaaW.PrintMore
attribute [local go_sem] max2_int min2_int max_two min_two max_three min_three max_four min_four   -- for this text's walks alone
set_option linter.unusedVariables false
set_option linter.unusedSimpArgs false

/-! ### diaphonelaw05_EchoAmong: function 5 -/
mutual
def diaphonelaw05_EchoAmong.j0 : Nat → List Int → Int → List Int → Int → Bool → Option (Bool)
  | 0, _, _, _, _, _ => none
  | k + 1, x3, x4, x5, x6, x29 => if x29 = true then (if x4 = x6 then ((diaphonelaw05_sane.f k).bind fun t111 => (some t111)) else (some false)) else ((echo_All.f k x5).bind fun bt112 => (diaphonelaw05_EchoAmong.l0 k x3 bt112.1 bt112.2 0))
def diaphonelaw05_EchoAmong.l0 : Nat → List Int → List (List Int) → Int → Int → Option (Bool)
  | 0, _, _, _, _ => none
  | k + 1, x3, x7, x8, x9 => if x9 < (x7.length : Int) then (if 0 ≤ x9 then ((diaphoneref05_SameInts.f k (rd_L1 x7 x9) x3).bind fun t117 => (if t117 = true then (if x8 = 0 then ((diaphonelaw05_sane.f k).bind fun t118 => (some t118)) else (some false)) else (diaphonelaw05_EchoAmong.l0 k x3 x7 x8 (wrap64 (x9 + 1))))) else (none)) else (some false)
end
def diaphonelaw05_EchoAmong.f (k : Nat) (l0 : List Int) : Option (Bool) := (long1.f l0).bind fun t101 => (if t101 = true then ((diaphonelaw05_sane.f k).bind fun t102 => (some t102)) else ((echo_Normal.f k l0).bind fun bt103 => ((echo_Delays.f k l0).bind fun bt107 => (if bt103.2 = 0 then (diaphonelaw05_EchoAmong.j0 k bt103.1 bt103.2 bt107.1 bt107.2 (bt107.2 != 0)) else (diaphonelaw05_EchoAmong.j0 k bt103.1 bt103.2 bt107.1 bt107.2 true)))))
theorem diaphonelaw05_EchoAmong.mono_l : ∀ k, (∀ y0 y1 y2 y3 y4, LeO (diaphonelaw05_EchoAmong.j0 k y0 y1 y2 y3 y4) (diaphonelaw05_EchoAmong.j0 (k + 1) y0 y1 y2 y3 y4)) ∧ (∀ y0 y1 y2 y3, LeO (diaphonelaw05_EchoAmong.l0 k y0 y1 y2 y3) (diaphonelaw05_EchoAmong.l0 (k + 1) y0 y1 y2 y3))
  | 0 => ⟨fun _ _ _ _ _ r h => by simp [diaphonelaw05_EchoAmong.j0] at h, fun _ _ _ _ r h => by simp [diaphonelaw05_EchoAmong.l0] at h⟩
  | k + 1 => by
    obtain ⟨ih0, ih1⟩ := diaphonelaw05_EchoAmong.mono_l k
    refine ⟨?_, ?_⟩
    · intro y0 y1 y2 y3 y4
      unfold diaphonelaw05_EchoAmong.j0
      repeat' first
      | (with_reducible exact ih0 _ _ _ _ _)
      | (with_reducible exact ih1 _ _ _ _)
      | (with_reducible exact diaphonelaw05_sane.mono _)
      | (with_reducible exact diaphoneref05_SameInts.mono _ _ _)
      | (with_reducible exact echo_All.mono _ _)
      | (with_reducible exact echo_Delays.mono _ _)
      | (with_reducible exact echo_Normal.mono _ _)
      | (with_reducible exact LeO.refl _)
      | (with_reducible exact LeO.none _)
      | (with_reducible refine LeO.ite ?_ ?_)
      | (with_reducible refine LeO.bind ?_ (fun _ => ?_))
      | exact ih0 _ _ _ _ _
      | exact ih1 _ _ _ _
      | exact diaphonelaw05_sane.mono _
      | exact diaphoneref05_SameInts.mono _ _ _
      | exact echo_All.mono _ _
      | exact echo_Delays.mono _ _
      | exact echo_Normal.mono _ _
      | exact LeO.none _
      | refine LeO.ite ?_ ?_
      | refine LeO.bind ?_ (fun _ => ?_)
    · intro y0 y1 y2 y3
      unfold diaphonelaw05_EchoAmong.l0
      repeat' first
      | (with_reducible exact ih0 _ _ _ _ _)
      | (with_reducible exact ih1 _ _ _ _)
      | (with_reducible exact diaphonelaw05_sane.mono _)
      | (with_reducible exact diaphoneref05_SameInts.mono _ _ _)
      | (with_reducible exact echo_All.mono _ _)
      | (with_reducible exact echo_Delays.mono _ _)
      | (with_reducible exact echo_Normal.mono _ _)
      | (with_reducible exact LeO.refl _)
      | (with_reducible exact LeO.none _)
      | (with_reducible refine LeO.ite ?_ ?_)
      | (with_reducible refine LeO.bind ?_ (fun _ => ?_))
      | exact ih0 _ _ _ _ _
      | exact ih1 _ _ _ _
      | exact diaphonelaw05_sane.mono _
      | exact diaphoneref05_SameInts.mono _ _ _
      | exact echo_All.mono _ _
      | exact echo_Delays.mono _ _
      | exact echo_Normal.mono _ _
      | exact LeO.none _
      | refine LeO.ite ?_ ?_
      | refine LeO.bind ?_ (fun _ => ?_)
theorem diaphonelaw05_EchoAmong.mono : ∀ a0 k, LeO (diaphonelaw05_EchoAmong.f k a0) (diaphonelaw05_EchoAmong.f (k + 1) a0) := by
  intro a0 k
  obtain ⟨ih0, ih1⟩ := diaphonelaw05_EchoAmong.mono_l k
  unfold diaphonelaw05_EchoAmong.f
  repeat' first
      | (with_reducible exact ih0 _ _ _ _ _)
      | (with_reducible exact ih1 _ _ _ _)
      | (with_reducible exact diaphonelaw05_sane.mono _)
      | (with_reducible exact diaphoneref05_SameInts.mono _ _ _)
      | (with_reducible exact echo_All.mono _ _)
      | (with_reducible exact echo_Delays.mono _ _)
      | (with_reducible exact echo_Normal.mono _ _)
      | (with_reducible exact LeO.refl _)
      | (with_reducible exact LeO.none _)
      | (with_reducible refine LeO.ite ?_ ?_)
      | (with_reducible refine LeO.bind ?_ (fun _ => ?_))
      | exact ih0 _ _ _ _ _
      | exact ih1 _ _ _ _
      | exact diaphonelaw05_sane.mono _
      | exact diaphoneref05_SameInts.mono _ _ _
      | exact echo_All.mono _ _
      | exact echo_Delays.mono _ _
      | exact echo_Normal.mono _ _
      | exact LeO.none _
      | refine LeO.ite ?_ ?_
      | refine LeO.bind ?_ (fun _ => ?_)
set_option maxHeartbeats 8000000 in
set_option maxRecDepth 100000 in
theorem diaphonelaw05_EchoAmong.calls (k : Nat) (A0 : Option Addr) (c0 : Nat) (l0 : List Int) (r : Bool) (hrt : r = true) (w : World) (hr0 : Kd.C (Kd.int .i64) w A0 l0.length l0) (hc0 : l0.length ≤ c0) (h : diaphonelaw05_EchoAmong.f k l0 = some r) :
    Calls Try.prog 5 #[.slice A0 l0.length c0] w fun e w' => e = .returned (.bool r) ∧ Below w.heap.size w w' := by
  have HRT := Aside0.mk hrt
  clear hrt
  have HR0 := Aside0.mk hr0
  have HC0 := Aside0.mk hc0
  clear hr0 hc0
  have HB := Aside0.mk (Below.refl w.heap.size w)
  have H : ((long1.f l0).bind fun t101 => (if t101 = true then ((diaphonelaw05_sane.f k).bind fun t102 => (some t102)) else ((echo_Normal.f k l0).bind fun bt103 => ((echo_Delays.f k l0).bind fun bt107 => (if bt103.2 = 0 then (diaphonelaw05_EchoAmong.j0 k bt103.1 bt103.2 bt107.1 bt107.2 (bt107.2 != 0)) else (diaphonelaw05_EchoAmong.j0 k bt103.1 bt103.2 bt107.1 bt107.2 true)))))) = some r := h
  clear h
  replace H := Option.bind_eq_some_iff.mp H
  obtain ⟨t101, A20, H⟩ := H
  replace H : (if t101 = true then ((diaphonelaw05_sane.f k).bind fun t102 => (some t102)) else ((echo_Normal.f k l0).bind fun bt103 => ((echo_Delays.f k l0).bind fun bt107 => (if bt103.2 = 0 then (diaphonelaw05_EchoAmong.j0 k bt103.1 bt103.2 bt107.1 bt107.2 (bt107.2 != 0)) else (diaphonelaw05_EchoAmong.j0 k bt103.1 bt103.2 bt107.1 bt107.2 true))))) = some r := H
  have A2 := Aside0.mk A20
  clear A20
  by_cases c3 : t101 = true
  · subst c3
    have H1 : ((diaphonelaw05_sane.f k).bind fun t102 => (some t102)) = some r := by rw [if_pos rfl] at H; exact H
    clear H
    have H := H1
    clear H1
    replace H := Option.bind_eq_some_iff.mp H
    obtain ⟨t102, A40, H⟩ := H
    replace H : (some t102) = some r := H
    have A4 := Aside0.mk A40
    clear A40
    obtain rfl := Option.some.inj H
    go_enter Try.func5, Try.ntmps5
    go_wp2_with (first | (go_at_call 15; (with_reducible refine (long1.calls _ _ l0 true _ ?side1 ?side2 A2.out).mono ?_); (case side1 => repeat (first | exact HR0.out | (with_reducible refine Kd.C_alloc ?_ _) | (with_reducible refine Kd.C_drewN ?_ _) | (with_reducible refine Kd.C_drew ?_))); (case side2 => exact HC0.out); rintro e w5 ⟨rfl, hb⟩; skip; have n0_ := Aside0.mk (below_step (by repeat (first | (with_reducible first | exact HB.out | apply below_alloc | apply pw_below_drewN | apply below_drew1) | exact HB.out)) hb); clear HB; have HB := n0_; clear n0_; (try clear hb); (try clear hb2); (try clear hk); (try clear hi)) | ((with_reducible refine gate_callee (f := 16) rfl ?_); refine goesL_ (some 13) rfl rfl Try.func16 (by kernel_rfl) rfl #[] rfl (by (try simp only [List.map_toArray, List.map_cons, List.map_nil]); first | done | rfl | (simp only [List.length_drop, List.length_take]; rfl)) ?_; (with_reducible refine (diaphonelaw05_sane.calls k  t102 _ A4.out).mono ?_); rintro e w6 ⟨rfl, hb⟩; refine ⟨_, rfl, ?_⟩; have n0_ := Aside0.mk (below_step (by repeat (first | (with_reducible first | exact HB.out | apply below_alloc | apply pw_below_drewN | apply below_drew1) | exact HB.out)) hb); clear HB; have HB := n0_; clear n0_; (try clear hb); (try clear hb2); (try clear hk); (try clear hi)))
    go_ret
    exact ⟨by first | rfl | (simp [errW_none, errW_some] <;> rfl) | (simp [*, errW_none, errW_some] <;> rfl), by repeat (first | (with_reducible first | exact HB.out | apply below_alloc | apply pw_below_drewN | apply below_drew1) | exact HB.out)⟩
  · replace c3 := Bool.eq_false_iff.mpr c3
    subst c3
    have H1 : ((echo_Normal.f k l0).bind fun bt103 => ((echo_Delays.f k l0).bind fun bt107 => (if bt103.2 = 0 then (diaphonelaw05_EchoAmong.j0 k bt103.1 bt103.2 bt107.1 bt107.2 (bt107.2 != 0)) else (diaphonelaw05_EchoAmong.j0 k bt103.1 bt103.2 bt107.1 bt107.2 true)))) = some r := by rw [if_neg (show ¬ (false = true) by decide)] at H; exact H
    clear H
    have H := H1
    clear H1
    replace H := Option.bind_eq_some_iff.mp H
    obtain ⟨⟨t103, t104⟩, A70, H⟩ := H
    replace H : ((echo_Delays.f k l0).bind fun bt107 => (if t104 = 0 then (diaphonelaw05_EchoAmong.j0 k t103 t104 bt107.1 bt107.2 (bt107.2 != 0)) else (diaphonelaw05_EchoAmong.j0 k t103 t104 bt107.1 bt107.2 true))) = some r := H
    have A7 := Aside0.mk A70
    clear A70
    replace H := Option.bind_eq_some_iff.mp H
    obtain ⟨⟨t107, t108⟩, A80, H⟩ := H
    replace H : (if t104 = 0 then (diaphonelaw05_EchoAmong.j0 k t103 t104 t107 t108 (t108 != 0)) else (diaphonelaw05_EchoAmong.j0 k t103 t104 t107 t108 true)) = some r := H
    have A8 := Aside0.mk A80
    clear A80
    have HC9 := Aside0.mk H
    clear H
    go_enter Try.func5, Try.ntmps5
    go_upto_region 5 with (first | (go_at_call 15; (with_reducible refine (long1.calls _ _ l0 false _ ?side1 ?side2 A2.out).mono ?_); (case side1 => repeat (first | exact HR0.out | (with_reducible refine Kd.C_alloc ?_ _) | (with_reducible refine Kd.C_drewN ?_ _) | (with_reducible refine Kd.C_drew ?_))); (case side2 => exact HC0.out); rintro e w10 ⟨rfl, hb⟩; skip; have n0_ := Aside0.mk (below_step (by repeat (first | (with_reducible first | exact HB.out | apply below_alloc | apply pw_below_drewN | apply below_drew1) | exact HB.out)) hb); clear HB; have HB := n0_; clear n0_; (try clear hb); (try clear hb2); (try clear hk); (try clear hi)) | ((with_reducible refine gate_callee (f := 26) rfl ?_); refine goesL_ (some 16) rfl rfl Try.func26 (by kernel_rfl) rfl #[.slice A0 l0.length c0] rfl (by (try simp only [List.map_toArray, List.map_cons, List.map_nil]); first | done | rfl | (simp only [List.length_drop, List.length_take]; rfl)) ?_; (with_reducible refine (echo_Normal.calls k _ _ l0 t103 t104 _ ?side1 ?side2 A7.out).mono ?_); (case side1 => repeat (first | exact (Kd.C_below HR0.out HB.out) | (with_reducible refine Kd.C_alloc ?_ _) | (with_reducible refine Kd.C_drewN ?_ _) | (with_reducible refine Kd.C_drew ?_))); (case side2 => exact HC0.out); rintro e w11 ⟨v105, rfl, ho0, hb⟩; refine ⟨_, rfl, ?_⟩; have n0_ := Aside0.mk (Kd.R_lower ho0 (below_size (by repeat (first | (with_reducible first | exact HB.out | apply below_alloc | apply pw_below_drewN | apply below_drew1) | exact HB.out)))); have n1_ := Aside0.mk (below_step (by repeat (first | (with_reducible first | exact HB.out | apply below_alloc | apply pw_below_drewN | apply below_drew1) | exact HB.out)) hb); clear HB; have HO106 := n0_; have HB := n1_; clear n0_ n1_; (try clear hb); (try clear hb2); (try clear hk); (try clear hi); (try clear ho0)) | ((with_reducible refine gate_callee (f := 17) rfl ?_); refine goesL_ (some 21) rfl rfl Try.func17 (by kernel_rfl) rfl #[.slice A0 l0.length c0] rfl (by (try simp only [List.map_toArray, List.map_cons, List.map_nil]); first | done | rfl | (simp only [List.length_drop, List.length_take]; rfl)) ?_; (with_reducible refine (echo_Delays.calls k _ _ l0 t107 t108 _ ?side1 ?side2 A8.out).mono ?_); (case side1 => repeat (first | exact (Kd.C_below HR0.out HB.out) | (with_reducible refine Kd.C_alloc ?_ _) | (with_reducible refine Kd.C_drewN ?_ _) | (with_reducible refine Kd.C_drew ?_))); (case side2 => exact HC0.out); rintro e w12 ⟨v109, rfl, ho0, hb⟩; refine ⟨_, rfl, ?_⟩; have n0_ := Aside0.mk (Kd.R_elder' (by (with_reducible repeat (first | apply Kd.R_alloc | apply Kd.R_drewN | apply Kd.R_drew)); exact HO106.out) (Kd.R_base ho0) hb); have n1_ := Aside0.mk (Kd.R_lower (Kd.R_new' ho0 (Kd.R_lt (by (with_reducible repeat (first | apply Kd.R_alloc | apply Kd.R_drewN | apply Kd.R_drew)); exact HO106.out))) (below_size (by repeat (first | (with_reducible first | exact HB.out | apply below_alloc | apply pw_below_drewN | apply below_drew1) | exact HB.out)))); have n2_ := Aside0.mk (below_step (by repeat (first | (with_reducible first | exact HB.out | apply below_alloc | apply pw_below_drewN | apply below_drew1) | exact HB.out)) hb); clear HO106; clear HB; have HO106 := n0_; have HO110 := n1_; have HB := n2_; clear n0_ n1_ n2_; (try clear hb); (try clear hb2); (try clear hk); (try clear hi); (try clear ho0)))
    (try simp only [Act.put, List.setIfInBounds_toArray, List.set_cons_zero, List.set_cons_succ])
    go_cut [29] (fun v29 wc => ∃ (kq : Nat) (x29_8 : Bool), v29 = .bool x29_8 ∧ Aside0 (diaphonelaw05_EchoAmong.j0 kq t103 t104 t107 t108 x29_8 = some r) ∧ Aside0 (kq ≤ k) ∧ Aside0 (Kd.R (Kd.int .i64) 3 wc w.heap.size (fun k_ => some k_ ≠ (v109 : Value).ownBlock) v105 t103) ∧ Aside0 (Kd.R (Kd.int .i64) 3 wc w.heap.size (fun k_ => some k_ ≠ (v105 : Value).ownBlock) v109 t107) ∧ Aside0 (Below w.heap.size w wc))
    case first =>
      have H := HC9.out
      clear HC9
      by_cases c13 : t104 = 0
      · rw [if_pos c13] at H
        have c13b0 : (t104 == 0) = true := beq_iff_eq.mpr c13
        have c13b1 : (t104 != 0) = false := bne_eq_false_iff_eq.mpr c13
        clear c13
        (first | rw [c13b0] | (simp only [i64_w, i32_w]; rw [c13b0]) | skip)
        have H' := Aside0.mk H
        clear H
        go_wp2
        go_meet
        case rel => exact ⟨_, ((t108 != 0)), (by first | rfl | (simp; done) | (simp [*]; done)), H', ⟨by first | omega | exact Nat.le_refl _⟩, ⟨by (with_reducible repeat (first | apply Kd.R_alloc | apply Kd.R_drewN | apply Kd.R_drew)); exact Kd.R_mono HO106.out (fun _ hk => hk.2)⟩, ⟨by (with_reducible repeat (first | apply Kd.R_alloc | apply Kd.R_drewN | apply Kd.R_drew)); exact Kd.R_mono HO110.out (fun _ hk => hk.2)⟩, ⟨by repeat (first | (with_reducible first | exact HB.out | apply below_alloc | apply pw_below_drewN | apply below_drew1) | exact HB.out)⟩⟩
      · rw [if_neg c13] at H
        have c13b0 : (t104 == 0) = false := beq_eq_false_iff_ne.mpr c13
        have c13b1 : (t104 != 0) = true := bne_iff_ne.mpr c13
        (first | rw [c13b0] | (simp only [i64_w, i32_w]; rw [c13b0]) | skip)
        have H' := Aside0.mk H
        clear H
        go_wp2
        go_meet
        case rel => exact ⟨_, (true), (by first | rfl | (simp; done) | (simp [*]; done)), H', ⟨by first | omega | exact Nat.le_refl _⟩, ⟨by (with_reducible repeat (first | apply Kd.R_alloc | apply Kd.R_drewN | apply Kd.R_drew)); exact Kd.R_mono HO106.out (fun _ hk => hk.2)⟩, ⟨by (with_reducible repeat (first | apply Kd.R_alloc | apply Kd.R_drewN | apply Kd.R_drew)); exact Kd.R_mono HO110.out (fun _ hk => hk.2)⟩, ⟨by repeat (first | (with_reducible first | exact HB.out | apply below_alloc | apply pw_below_drewN | apply below_drew1) | exact HB.out)⟩⟩
    case rest =>
      clear HC9
      try clear c1
      try clear c2
      try clear p2
      try clear c3
      try clear c5
      try clear c9
      try clear c13
      try clear c13b0
      try clear c13b1
      obtain ⟨kq, x29_8, rfl, HA, HJ8, HO_3, HO_5, HB⟩ := hcut
      cases kq with
      | zero => exact absurd HA.out (by simp [diaphonelaw05_EchoAmong.j0])
      | succ kj8 =>
        have H := HA.out
        clear HA
        simp only [diaphonelaw05_EchoAmong.j0] at H
        by_cases c14 : x29_8 = true
        · subst c14
          have H1 : (if t104 = t108 then ((diaphonelaw05_sane.f kj8).bind fun t111 => (some t111)) else (some false)) = some r := by rw [if_pos rfl] at H; exact H
          clear H
          have H := H1
          clear H1
          by_cases c15 : t104 = t108
          · rw [if_pos c15] at H
            have c15b0 : (t104 == t108) = true := beq_iff_eq.mpr c15
            have c15b1 : (t104 != t108) = false := bne_eq_false_iff_eq.mpr c15
            clear c15
            replace H := Option.bind_eq_some_iff.mp H
            obtain ⟨t111, A160, H⟩ := H
            replace H : (some t111) = some r := H
            have A16 := Aside0.mk A160
            clear A160
            obtain rfl := Option.some.inj H
            go_wp2_with (first | (go_at_call 16; (with_reducible refine (diaphonelaw05_sane.calls kj8  t111 _ A16.out).mono ?_); rintro e w17 ⟨rfl, hb⟩; have n0_ := Aside0.mk (Kd.R_below (by (with_reducible repeat (first | apply Kd.R_alloc | apply Kd.R_drewN | apply Kd.R_drew)); exact HO_3.out) hb); have n1_ := Aside0.mk (Kd.R_below (by (with_reducible repeat (first | apply Kd.R_alloc | apply Kd.R_drewN | apply Kd.R_drew)); exact HO_5.out) hb); have n2_ := Aside0.mk (below_step (by repeat (first | (with_reducible first | exact HB.out | apply below_alloc | apply pw_below_drewN | apply below_drew1) | exact HB.out)) hb); clear HO_3; clear HO_5; clear HB; have HO_3 := n0_; have HO_5 := n1_; have HB := n2_; clear n0_ n1_ n2_; (try clear hb); (try clear hb2); (try clear hk); (try clear hi)))
            go_ret
            exact ⟨by first | rfl | (simp [errW_none, errW_some] <;> rfl) | (simp [*, errW_none, errW_some] <;> rfl), by repeat (first | (with_reducible first | exact HB.out | apply below_alloc | apply pw_below_drewN | apply below_drew1) | exact HB.out)⟩
          · rw [if_neg c15] at H
            have c15b0 : (t104 == t108) = false := beq_eq_false_iff_ne.mpr c15
            have c15b1 : (t104 != t108) = true := bne_iff_ne.mpr c15
            exact absurd (Option.some.inj H) (by rw [HRT.out]; decide)
        · replace c14 := Bool.eq_false_iff.mpr c14
          subst c14
          have H1 : ((echo_All.f kj8 t107).bind fun bt112 => (diaphonelaw05_EchoAmong.l0 kj8 t103 bt112.1 bt112.2 0)) = some r := by rw [if_neg (show ¬ (false = true) by decide)] at H; exact H
          clear H
          have H := H1
          clear H1
          replace H := Option.bind_eq_some_iff.mp H
          obtain ⟨⟨t112, t113⟩, A180, H⟩ := H
          replace H : (diaphonelaw05_EchoAmong.l0 kj8 t103 t112 t113 0) = some r := H
          have A18 := Aside0.mk A180
          clear A180
          have H' := Aside0.mk H
          clear H
          obtain ⟨Ao19, co19, eo19⟩ := Kd.R_slice HO_5.out
          subst eo19
          go_wp2_with (first | ((with_reducible refine gate_callee (f := 27) rfl ?_); refine goesL_ (some 38) rfl rfl Try.func27 (by kernel_rfl) rfl #[.slice Ao19 t107.length co19] rfl (by (try simp only [List.map_toArray, List.map_cons, List.map_nil]); first | done | rfl | (simp only [List.length_drop, List.length_take]; rfl)) ?_; (with_reducible refine (echo_All.calls kj8 _ _ t107 t112 t113 _ ?side1 ?side2 A18.out).mono ?_); (case side1 => repeat (first | exact (Kd.R_reads' HO_5.out).2.2 | (with_reducible refine Kd.C_alloc ?_ _) | (with_reducible refine Kd.C_drewN ?_ _) | (with_reducible refine Kd.C_drew ?_))); (case side2 => exact (Kd.R_reads' HO_5.out).2.1); rintro e w20 ⟨v114, rfl, ho0, hb⟩; refine ⟨_, rfl, ?_⟩; have n0_ := Aside0.mk (Kd.R_below (by (with_reducible repeat (first | apply Kd.R_alloc | apply Kd.R_drewN | apply Kd.R_drew)); exact HO_3.out) hb); have n1_ := Aside0.mk (Kd.R_below (by (with_reducible repeat (first | apply Kd.R_alloc | apply Kd.R_drewN | apply Kd.R_drew)); exact HO_5.out) hb); have n2_ := Aside0.mk (Kd.S_lower (Kd.S_new' (Kd.S_new' ho0 (Kd.R_lt (by (with_reducible repeat (first | apply Kd.R_alloc | apply Kd.R_drewN | apply Kd.R_drew)); exact HO_3.out))) (Kd.R_lt (by (with_reducible repeat (first | apply Kd.R_alloc | apply Kd.R_drewN | apply Kd.R_drew)); exact HO_5.out))) (below_size (by repeat (first | (with_reducible first | exact HB.out | apply below_alloc | apply pw_below_drewN | apply below_drew1) | exact HB.out)))); have n3_ := Aside0.mk (below_step (by repeat (first | (with_reducible first | exact HB.out | apply below_alloc | apply pw_below_drewN | apply below_drew1) | exact HB.out)) hb); clear HO_3; clear HO_5; clear HB; have HO_3 := n0_; have HO_5 := n1_; have HO115 := n2_; have HB := n3_; clear n0_ n1_ n2_ n3_; (try clear hb); (try clear hb2); (try clear hk); (try clear hi); (try clear ho0)))
          go_loopg [9] kj8 (fun kq v9 w' => ∃ (x9_2 : Int), v9 = .int .i64 x9_2 ∧ Aside0 (diaphonelaw05_EchoAmong.l0 kq t103 t112 t113 x9_2 = some r) ∧ Aside0 (kq ≤ kj8) ∧ Aside0 (Kd.R (Kd.int .i64) 3 w' w.heap.size (fun _ => True) v105 t103) ∧ Aside0 (Kd.S (Kd.slice 3 (Kd.int .i64)) 22 w' w.heap.size (fun k_ => some k_ ≠ (v105 : Value).ownBlock) v114 t112) ∧ Aside0 (Below w.heap.size w w'))
          case atStart => exact ⟨(0), (by first | rfl | (simp; done) | (simp [*]; done)), H', ⟨Nat.le_refl _⟩, ⟨by (with_reducible repeat (first | apply Kd.R_alloc | apply Kd.R_drewN | apply Kd.R_drew)); exact Kd.R_mono HO_3.out (fun _ hk => trivial)⟩, ⟨by (with_reducible repeat (first | apply Kd.S_alloc | apply Kd.S_drewN | apply Kd.S_drew)); exact Kd.S_mono HO115.out (fun _ hk => hk.1.2)⟩, ⟨by repeat (first | (with_reducible first | exact HB.out | apply below_alloc | apply pw_below_drewN | apply below_drew1) | exact HB.out)⟩⟩
          case round =>
            clear H'
            try clear c1
            try clear c2
            try clear p2
            try clear c3
            try clear c5
            try clear c9
            try clear c13
            try clear c13b0
            try clear c13b1
            try clear c14
            try clear c15
            try clear c15b0
            try clear c15b1
            try clear c16
            try clear c17
            try clear p2
            obtain ⟨x9_2, rfl, HA, HK2, HO_3, HO_7, HB⟩ := hrel
            cases gk with
            | zero => exact absurd HA.out (by simp [diaphonelaw05_EchoAmong.l0])
            | succ k2 =>
              have H := HA.out
              clear HA
              simp only [diaphonelaw05_EchoAmong.l0] at H
              by_cases c21 : x9_2 < (t112.length : Int)
              · rw [if_pos c21] at H
                have c21b0 : decide (x9_2 < (t112.length : Int)) = true := decide_eq_true c21
                clear c21
                by_cases c22 : 0 ≤ x9_2
                · rw [if_pos c22] at H
                  have c22b0 : decide (0 ≤ x9_2) = true := decide_eq_true c22
                  clear c22
                  replace H := Option.bind_eq_some_iff.mp H
                  obtain ⟨t117, A230, H⟩ := H
                  replace H : (if t117 = true then (if t113 = 0 then ((diaphonelaw05_sane.f k2).bind fun t118 => (some t118)) else (some false)) else (diaphonelaw05_EchoAmong.l0 k2 t103 t112 t113 (wrap64 (x9_2 + 1)))) = some r := H
                  have A23 := Aside0.mk A230
                  clear A230
                  by_cases c24 : t117 = true
                  · subst c24
                    have H1 : (if t113 = 0 then ((diaphonelaw05_sane.f k2).bind fun t118 => (some t118)) else (some false)) = some r := by rw [if_pos rfl] at H; exact H
                    clear H
                    have H := H1
                    clear H1
                    by_cases c25 : t113 = 0
                    · rw [if_pos c25] at H
                      have c25b0 : (t113 == 0) = true := beq_iff_eq.mpr c25
                      have c25b1 : (t113 != 0) = false := bne_eq_false_iff_eq.mpr c25
                      clear c25
                      replace H := Option.bind_eq_some_iff.mp H
                      obtain ⟨t118, A260, H⟩ := H
                      replace H : (some t118) = some r := H
                      have A26 := Aside0.mk A260
                      clear A260
                      obtain rfl := Option.some.inj H
                      obtain ⟨Ao27, co27, eo27⟩ := Kd.S_slice HO_7.out
                      subst eo27
                      have p116 : 0 ≤ (x9_2 : Int) := of_decide_eq_true (by first | (with_reducible assumption) | assumption)
                      have q116 : x9_2 < (t112.length : Int) := of_decide_eq_true (by first | (with_reducible assumption) | assumption)
                      obtain ⟨ad116, A116_0, c116_0, e116, hx116_0, hl116_0, hi116_0⟩ := at_L1 (Kd.S_reads' HO_7.out).2.2 x9_2 p116 q116
                      cases e116
                      obtain ⟨ce116, hce116, hMe116, hcc116⟩ := Kd.S_get HO_7.out [] x9_2 p116 (by first | exact q116 | exact of_decide_eq_true (by first | (with_reducible assumption) | assumption) | (have e_ := (Kd.S_reads' HO_7.out).1; omega))
                      obtain ⟨ve116_0, rfl, ge116_0⟩ := hMe116
                      have hv116_0 := hcc116 0 _ rfl
                      rw [Nat.add_zero, show ((Kd.slice 3 (Kd.int .i64))).sz = 1 from rfl, Nat.mul_one] at hv116_0
                      replace hv116_0 := Option.some.inj (hv116_0.symm.trans hx116_0)
                      rw [hv116_0] at ge116_0
                      have HL116_0 := Aside0.mk (show Kd.R (Kd.int .i64) 3 _ _ _ _ (rd_L1 t112 x9_2) from ge116_0)
                      clear hv116_0 ge116_0
                      clear hcc116 hce116
                      have HR116_0 := Aside0.mk hi116_0
                      have HC116_0 := Aside0.mk hl116_0
                      clear hi116_0 hl116_0
                      replace p116 := eq_true p116
                      replace q116 := eq_true q116
                      obtain ⟨Ao28, co28, eo28⟩ := Kd.R_slice HO_3.out
                      subst eo28
                      go_wp2_with (first | ((with_reducible refine gate_callee (f := 23) rfl ?_); refine goesL_ (some 52) rfl rfl Try.func23 (by kernel_rfl) rfl #[.slice A116_0 (rd_L1 t112 x9_2).length c116_0, .slice Ao28 t103.length co28] rfl (by (try simp only [List.map_toArray, List.map_cons, List.map_nil]); first | done | rfl | (simp only [List.length_drop, List.length_take]; rfl)) ?_; (with_reducible refine (diaphoneref05_SameInts.calls k2 _ _ (rd_L1 t112 x9_2) _ _ t103 true _ ?side1 ?side2 ?side3 ?side4 A23.out).mono ?_); (case side1 => repeat (first | exact (by repeat (first | (with_reducible exact HR116_0.out) | (with_reducible refine Kd.C_alloc ?_ _) | (with_reducible refine Kd.C_drewN ?_ _) | (with_reducible refine Kd.C_drew ?_) | exact HR116_0.out)) | (with_reducible refine Kd.C_alloc ?_ _) | (with_reducible refine Kd.C_drewN ?_ _) | (with_reducible refine Kd.C_drew ?_))); (case side2 => exact HC116_0.out); (case side3 => repeat (first | exact (Kd.R_reads' HO_3.out).2.2 | (with_reducible refine Kd.C_alloc ?_ _) | (with_reducible refine Kd.C_drewN ?_ _) | (with_reducible refine Kd.C_drew ?_))); (case side4 => exact (Kd.R_reads' HO_3.out).2.1); rintro e w' ⟨rfl, ⟨nd, rfl⟩⟩; refine ⟨_, rfl, ?_⟩) | (go_at_call 16; (with_reducible refine (diaphonelaw05_sane.calls k2  t118 _ A26.out).mono ?_); rintro e w29 ⟨rfl, hb⟩; have n0_ := Aside0.mk (Kd.R_below (by (with_reducible repeat (first | apply Kd.R_alloc | apply Kd.R_drewN | apply Kd.R_drew)); exact HO_3.out) hb); have n1_ := Aside0.mk (Kd.S_below (by (with_reducible repeat (first | apply Kd.S_alloc | apply Kd.S_drewN | apply Kd.S_drew)); exact HO_7.out) hb); have n2_ := Aside0.mk (Kd.R_below (by (with_reducible repeat (first | apply Kd.R_alloc | apply Kd.R_drewN | apply Kd.R_drew)); exact HL116_0.out) hb); have n3_ := Aside0.mk (Kd.C_below (by repeat (first | (with_reducible exact HR116_0.out) | (with_reducible refine Kd.C_alloc ?_ _) | (with_reducible refine Kd.C_drewN ?_ _) | (with_reducible refine Kd.C_drew ?_) | exact HR116_0.out)) hb); have n4_ := Aside0.mk (below_step (by repeat (first | (with_reducible first | exact HB.out | apply below_alloc | apply pw_below_drewN | apply below_drew1) | exact HB.out)) hb); clear HO_3; clear HO_7; clear HL116_0; clear HR116_0; clear HB; have HO_3 := n0_; have HO_7 := n1_; have HL116_0 := n2_; have HR116_0 := n3_; have HB := n4_; clear n0_ n1_ n2_ n3_ n4_; (try clear hb); (try clear hb2); (try clear hk); (try clear hi)))
                      go_ret
                      exact ⟨by first | rfl | (simp [errW_none, errW_some] <;> rfl) | (simp [*, errW_none, errW_some] <;> rfl), by repeat (first | (with_reducible first | exact HB.out | apply below_alloc | apply pw_below_drewN | apply below_drew1) | exact HB.out)⟩
                    · rw [if_neg c25] at H
                      have c25b0 : (t113 == 0) = false := beq_eq_false_iff_ne.mpr c25
                      have c25b1 : (t113 != 0) = true := bne_iff_ne.mpr c25
                      exact absurd (Option.some.inj H) (by rw [HRT.out]; decide)
                  · replace c24 := Bool.eq_false_iff.mpr c24
                    subst c24
                    have H1 : (diaphonelaw05_EchoAmong.l0 k2 t103 t112 t113 (wrap64 (x9_2 + 1))) = some r := by rw [if_neg (show ¬ (false = true) by decide)] at H; exact H
                    clear H
                    have H := H1
                    clear H1
                    have H' := Aside0.mk H
                    clear H
                    obtain ⟨Ao32, co32, eo32⟩ := Kd.S_slice HO_7.out
                    subst eo32
                    have p116 : 0 ≤ (x9_2 : Int) := of_decide_eq_true (by first | (with_reducible assumption) | assumption)
                    have q116 : x9_2 < (t112.length : Int) := of_decide_eq_true (by first | (with_reducible assumption) | assumption)
                    obtain ⟨ad116, A116_0, c116_0, e116, hx116_0, hl116_0, hi116_0⟩ := at_L1 (Kd.S_reads' HO_7.out).2.2 x9_2 p116 q116
                    cases e116
                    obtain ⟨ce116, hce116, hMe116, hcc116⟩ := Kd.S_get HO_7.out [] x9_2 p116 (by first | exact q116 | exact of_decide_eq_true (by first | (with_reducible assumption) | assumption) | (have e_ := (Kd.S_reads' HO_7.out).1; omega))
                    obtain ⟨ve116_0, rfl, ge116_0⟩ := hMe116
                    have hv116_0 := hcc116 0 _ rfl
                    rw [Nat.add_zero, show ((Kd.slice 3 (Kd.int .i64))).sz = 1 from rfl, Nat.mul_one] at hv116_0
                    replace hv116_0 := Option.some.inj (hv116_0.symm.trans hx116_0)
                    rw [hv116_0] at ge116_0
                    have HL116_0 := Aside0.mk (show Kd.R (Kd.int .i64) 3 _ _ _ _ (rd_L1 t112 x9_2) from ge116_0)
                    clear hv116_0 ge116_0
                    clear hcc116 hce116
                    have HR116_0 := Aside0.mk hi116_0
                    have HC116_0 := Aside0.mk hl116_0
                    clear hi116_0 hl116_0
                    replace p116 := eq_true p116
                    replace q116 := eq_true q116
                    obtain ⟨Ao33, co33, eo33⟩ := Kd.R_slice HO_3.out
                    subst eo33
                    go_wp2_with (first | ((with_reducible refine gate_callee (f := 23) rfl ?_); refine goesL_ (some 52) rfl rfl Try.func23 (by kernel_rfl) rfl #[.slice A116_0 (rd_L1 t112 x9_2).length c116_0, .slice Ao33 t103.length co33] rfl (by (try simp only [List.map_toArray, List.map_cons, List.map_nil]); first | done | rfl | (simp only [List.length_drop, List.length_take]; rfl)) ?_; (with_reducible refine (diaphoneref05_SameInts.calls k2 _ _ (rd_L1 t112 x9_2) _ _ t103 false _ ?side1 ?side2 ?side3 ?side4 A23.out).mono ?_); (case side1 => repeat (first | exact (by repeat (first | (with_reducible exact HR116_0.out) | (with_reducible refine Kd.C_alloc ?_ _) | (with_reducible refine Kd.C_drewN ?_ _) | (with_reducible refine Kd.C_drew ?_) | exact HR116_0.out)) | (with_reducible refine Kd.C_alloc ?_ _) | (with_reducible refine Kd.C_drewN ?_ _) | (with_reducible refine Kd.C_drew ?_))); (case side2 => exact HC116_0.out); (case side3 => repeat (first | exact (Kd.R_reads' HO_3.out).2.2 | (with_reducible refine Kd.C_alloc ?_ _) | (with_reducible refine Kd.C_drewN ?_ _) | (with_reducible refine Kd.C_drew ?_))); (case side4 => exact (Kd.R_reads' HO_3.out).2.1); rintro e w' ⟨rfl, ⟨nd, rfl⟩⟩; refine ⟨_, rfl, ?_⟩))
                    go_roundg k2
                    case measure => have := HJ8.out; have := HK2.out; omega
                    case rel => exact ⟨(wrap64 (x9_2 + 1)), (by first | rfl | (simp; done) | (simp [*]; done)), H', ⟨by have := HJ8.out; have := HK2.out; omega⟩, ⟨by (with_reducible repeat (first | apply Kd.R_alloc | apply Kd.R_drewN | apply Kd.R_drew)); exact HO_3.out⟩, ⟨by (with_reducible repeat (first | apply Kd.S_alloc | apply Kd.S_drewN | apply Kd.S_drew)); exact HO_7.out⟩, ⟨by repeat (first | (with_reducible first | exact HB.out | apply below_alloc | apply pw_below_drewN | apply below_drew1) | exact HB.out)⟩⟩
                · rw [if_neg c22] at H
                  exact absurd H (by simp)
              · rw [if_neg c21] at H
                have c21b0 : decide (x9_2 < (t112.length : Int)) = false := decide_eq_false c21
                clear c21
                obtain rfl := Option.some.inj H
                obtain ⟨Ao34, co34, eo34⟩ := Kd.S_slice HO_7.out
                subst eo34
                go_wp2
                go_ret
                exact ⟨by first | rfl | (simp [errW_none, errW_some] <;> rfl) | (simp [*, errW_none, errW_some] <;> rfl), by repeat (first | (with_reducible first | exact HB.out | apply below_alloc | apply pw_below_drewN | apply below_drew1) | exact HB.out)⟩

/-- THE ONE PURE STATEMENT of diaphonelaw05_EchoAmong: yours. -/
def diaphonelaw05_EchoAmong.Pure : Prop := ∀ (l0 : List Int), l0.length ≤ maxLen → l0.length * 8 ≤ 140737488351232 → (∀ x ∈ l0, (Lit.int .i64 x).wf = true) → ∃ k, diaphonelaw05_EchoAmong.f k l0 = some true
theorem diaphonelaw05_EchoAmong.walk (P : diaphonelaw05_EchoAmong.Pure) (a0 : Option Addr) (len0 cap0 : Nat) (z0 : List Int) (w : World) (w0 : (a0 = none ∧ len0 = 0 ∧ cap0 = 0 ∧ z0 = []) ∨ ∃ x, a0 = some x ∧ len0 ≤ cap0 ∧ cap0 ≤ maxLen ∧ z0.length = cap0 ∧ (∀ i, i < z0.length → w.cell? (x.add i) = some (.int .i64 (z0.getD i 0))) ∧ ∀ n ∈ z0, (Lit.int .i64 n).wf = true) (y0 : len0 * 8 ≤ 140737488351232) :
    Calls Try.prog 5 #[.slice a0 len0 cap0] w fun e w' => e = .returned (.bool true) ∧ Below w.heap.size w w' := by
  obtain ⟨l0, rfl, hr0, hm0, hw0, hc0⟩ := ReadsInt.ofRowC w0
  obtain ⟨k, h⟩ := P l0 hm0 y0 hw0
  refine (diaphonelaw05_EchoAmong.calls k _ _ l0 true rfl w (Kd.C_of_reads (d := (0 : Int)) (h1 := fun _ => rfl) hr0) hc0 h).mono ?_
  rintro e w' ⟨rfl, hd⟩
  exact ⟨rfl, hd⟩

end Go.Proofs.Ytlbhedhbakhhlaa.Q

/- Words for the plain laws: what a printed function has as its result from some number of rounds on. -/
namespace Go.Proofs.Ytlbhedhbakhhlaa.Q
open Go.RowKit Go.Proofs.YtlbhedhbakhhlaaW.PrintWords Go.Proofs.YtlbhedhbakhhlaaW.PrintLast Go.Proofs.YtlbhedhbakhhlaaW.PrintMore

theorem Ev.pure {α : Type} (r : α) : Ev (fun _ => some r) r := ⟨0, fun _ _ => rfl⟩
theorem Ev.of {α : Type} {f : Nat → Option α} {r : α} (K : Nat) (h : ∀ k, K ≤ k → f k = some r) : Ev f r := ⟨K, h⟩
theorem Ev.step {α : Type} {f g : Nat → Option α} {r : α} (hg : Ev g r) (h : ∀ k, f (k + 1) = g k) : Ev f r := by
  obtain ⟨K, hK⟩ := hg
  refine ⟨K + 1, fun k hk => ?_⟩
  obtain ⟨j, rfl⟩ : ∃ j, k = j + 1 := ⟨k - 1, by omega⟩
  rw [h]
  exact hK j (by omega)
theorem Ev.congr {α : Type} {f g : Nat → Option α} {r : α} (hg : Ev g r) (h : ∀ k, f k = g k) : Ev f r := by
  obtain ⟨K, hK⟩ := hg
  exact ⟨K, fun k hk => by rw [h]; exact hK k hk⟩
theorem Ev.bind {α β : Type} {f : Nat → Option α} {g : Nat → α → Option β} {a : α} {r : β} (hf : Ev f a) (hg : Ev (fun k => g k a) r) : Ev (fun k => (f k).bind fun x => g k x) r := by
  obtain ⟨K, hK⟩ := hf
  obtain ⟨L, hL⟩ := hg
  refine ⟨K + L, fun k hk => ?_⟩
  show (f k).bind (fun x => g k x) = some r
  rw [hK k (by omega), Option.bind_some]
  exact hL k (by omega)
theorem Ev.some_bind {α β : Type} {a : α} {g : Nat → α → Option β} {r : β} (hg : Ev (fun k => g k a) r) : Ev (fun k => (some a).bind fun x => g k x) r := Ev.bind (Ev.pure a) hg
theorem Ev.ex {α : Type} {f : Nat → Option α} {r : α} (h : Ev f r) : ∃ k, f k = some r := by
  obtain ⟨K, hK⟩ := h
  exact ⟨K, hK K (Nat.le_refl _)⟩
theorem Ev.ite {α : Type} {c : Prop} [Decidable c] {f g : Nat → Option α} {r : α} (h1 : c → Ev f r) (h2 : ¬ c → Ev g r) : Ev (fun k => if c then f k else g k) r := by
  by_cases h : c
  · simp only [if_pos h]; exact h1 h
  · simp only [if_neg h]; exact h2 h

/-- The wrapped numbers that occur. -/
theorem wrap_nat {n : Nat} (h : n ≤ 9223372036854775807) : wrap64 (n : Int) = n := wrap_of (by omega) (by omega)
theorem wrap_succ {n : Nat} (h : n < 9223372036854775807) : wrap64 ((n : Int) + 1) = ((n + 1 : Nat) : Int) := by rw [wrap_of (by omega) (by omega)]; omega
theorem wrap_pred {n : Nat} (h : n ≤ 9223372036854775807) (h0 : 0 < n) : wrap64 ((n : Int) - 1) = ((n - 1 : Nat) : Int) := by rw [wrap_of (by omega) (by omega)]; omega
end Go.Proofs.Ytlbhedhbakhhlaa.Q

/- What Validate says, by the code and by the document: the same. -/
namespace Go.Proofs.Ytlbhedhbakhhlaa.Q
open Go.RowKit Go.Proofs.YtlbhedhbakhhlaaW.PrintWords Go.Proofs.YtlbhedhbakhhlaaW.PrintLast Go.Proofs.YtlbhedhbakhhlaaW.PrintMore

def at_ (l : List Int) (i : Nat) : Int := l.getD i 0
theorem rd_at (l : List Int) (i : Nat) : rd l (i : Int) = at_ l i := rfl
theorem rd_zero (l : List Int) : rd l 0 = at_ l 0 := rfl
theorem at_lt (l : List Int) (i : Nat) (h : i < l.length) : at_ l i = l[i] := by
  unfold at_
  rw [List.getD_eq_getElem?_getD, List.getElem?_eq_getElem h]
  rfl
/-- A place that is out of reach, or not behind the one before. -/
def badAt (l : List Int) (i : Nat) : Prop := (at_ l i < -60 ∨ 60 < at_ l i) ∨ (0 < i ∧ at_ l i ≤ at_ l (i - 1))
instance (l : List Int) (i : Nat) : Decidable (badAt l i) := inferInstanceAs (Decidable (_ ∨ _))
/-- Right places so far. -/
def goodTo (l : List Int) (n : Nat) : Prop := ∀ i, i < n → ¬ badAt l i
/-- Right cliffs. -/
structure V (l : List Int) : Prop where
  pos : 0 < l.length
  six : l.length ≤ 6
  good : goodTo l l.length
  span : at_ l (l.length - 1) - at_ l 0 ≤ 60
theorem V.range {l : List Int} (h : V l) {i : Nat} (hi : i < l.length) : -60 ≤ at_ l i ∧ at_ l i ≤ 60 := by
  have := h.good i hi
  unfold badAt at this
  omega
theorem V.lt {l : List Int} (h : V l) : ∀ {i j : Nat}, i < j → j < l.length → at_ l i < at_ l j := by
  intro i j hij
  induction j with
  | zero => omega
  | succ j ih =>
    intro hj
    have h1 := h.good (j + 1) hj
    unfold badAt at h1
    rw [Nat.add_sub_cancel] at h1
    by_cases e : i = j
    · subst e; omega
    · have := ih (by omega) (by omega)
      omega
instance (l : List Int) (n : Nat) : Decidable (goodTo l n) := inferInstanceAs (Decidable (∀ i, i < n → ¬ badAt l i))
instance (l : List Int) : Decidable (V l) := decidable_of_iff (0 < l.length ∧ l.length ≤ 6 ∧ goodTo l l.length ∧ at_ l (l.length - 1) - at_ l 0 ≤ 60)
  ⟨fun h => ⟨h.1, h.2.1, h.2.2.1, h.2.2.2⟩, fun h => ⟨h.pos, h.six, h.good, h.span⟩⟩
/-- The error. -/
def vErr (l : List Int) : Int := if l.length = 0 ∨ 6 < l.length then 3 else if V l then 0 else 1

theorem within_echo (a b c : Int) : echo_within.f a b c = some (decide (b ≤ a ∧ a ≤ c)) := by
  unfold echo_within.f
  by_cases h : a ≥ b
  · rw [if_pos h]; simp [h]
  · rw [if_neg h]; simp; omega
theorem within_ref (a b c : Int) : diaphoneref05_within.f a b c = some (decide (b ≤ a ∧ a ≤ c)) := by
  unfold diaphoneref05_within.f
  by_cases h : a ≥ b
  · rw [if_pos h]; simp [h]
  · rw [if_neg h]; simp; omega

/-- What comes behind the loop. -/
theorem v_end (l : List Int) (h0 : 0 < l.length) (h6 : l.length ≤ 6) (hg : goodTo l l.length) :
    (if wrap64 (rd l (wrap64 ((l.length : Int) - 1)) - rd l 0) > 60 then some 1 else some 0 : Option Int) = some (vErr l) := by
  have h1 : ¬ badAt l 0 := hg 0 h0
  have h2 : ¬ badAt l (l.length - 1) := hg _ (by omega)
  unfold badAt at h1 h2
  rw [wrap_pred (by omega) h0, rd_at, rd_zero, wrap_of (by omega) (by omega)]
  by_cases hs : at_ l (l.length - 1) - at_ l 0 > 60
  · have hv : vErr l = 1 := by unfold vErr; rw [if_neg (by omega), if_neg (fun hv => by have := hv.span; omega)]
    rw [if_pos hs, hv]
  · have hv : vErr l = 0 := by unfold vErr; rw [if_neg (by omega), if_pos ⟨h0, h6, hg, by omega⟩]
    rw [if_neg hs, hv]
theorem v_bad (l : List Int) (h0 : 0 < l.length) (h6 : l.length ≤ 6) (i : Nat) (hi : i < l.length) (hb : badAt l i) : vErr l = 1 := by
  unfold vErr
  rw [if_neg (by omega), if_neg (fun hv => hv.good i hi hb)]

theorem validate_l0 (l : List Int) (h0 : 0 < l.length) (h6 : l.length ≤ 6) : ∀ m i, l.length - i = m → i ≤ l.length → goodTo l i → Ev (fun k => echo_Validate.l0 k l l (l.length : Int) (i : Int)) (vErr l) := by
  intro m
  induction m with
  | zero =>
    intro i hm hi hg
    have : i = l.length := by omega
    subst this
    refine Ev.step (Ev.pure (vErr l)) fun k => ?_
    rw [echo_Validate.l0, if_neg (by omega), if_pos (by rw [wrap_pred (by omega) h0]; omega), if_pos (by rw [wrap_pred (by omega) h0]; omega), if_pos (by omega)]
    exact v_end l h0 h6 hg
  | succ m ih =>
    intro i hm hi hg
    have hlt : i < l.length := by omega
    by_cases hb : badAt l i
    · refine Ev.step (Ev.pure (vErr l)) fun k => ?_
      rw [echo_Validate.l0, if_pos (by omega), if_pos (by omega), if_pos (by omega), within_echo, Option.bind_some, v_bad l h0 h6 i hlt hb, rd_at]
      by_cases hr : -60 ≤ at_ l i ∧ at_ l i ≤ 60
      · have hb2 : 0 < i ∧ at_ l i ≤ at_ l (i - 1) := by unfold badAt at hb; omega
        rw [if_pos (by simpa using hr), if_pos (by omega), wrap_pred (by omega) hb2.1, if_pos (by omega), if_pos (by omega), rd_at, if_pos hb2.2]
      · rw [if_neg (by simpa using hr)]
    · have hb' := hb
      unfold badAt at hb'
      refine Ev.step (ih (i + 1) (by omega) (by omega) (fun j hj => by
        by_cases e : j = i
        · subst e; exact hb
        · exact hg j (by omega))) fun k => ?_
      rw [echo_Validate.l0, if_pos (by omega), if_pos (by omega), if_pos (by omega), within_echo, Option.bind_some, rd_at, if_pos (by simp; omega), wrap_succ (by omega)]
      by_cases hi0 : 0 < i
      · rw [if_pos (by omega), wrap_pred (by omega) hi0, if_pos (by omega), if_pos (by omega), rd_at, if_neg (by omega)]
      · rw [if_neg (by omega)]
theorem validate_ev (l : List Int) : Ev (fun k => echo_Validate.f k l) (vErr l) := by
  unfold echo_Validate.f
  rw [within_echo]
  refine Ev.some_bind ?_
  by_cases h : 1 ≤ l.length ∧ l.length ≤ 6
  · simp only [if_pos (show decide ((1 : Int) ≤ (l.length : Int) ∧ (l.length : Int) ≤ 6) = true by simp; omega)]
    exact validate_l0 l (by omega) h.2 l.length 0 (by omega) (by omega) (fun _ hj => by omega)
  · simp only [if_neg (show ¬ decide ((1 : Int) ≤ (l.length : Int) ∧ (l.length : Int) ≤ 6) = true by simp; omega)]
    have : vErr l = 3 := by unfold vErr; rw [if_pos (by omega)]
    rw [this]
    exact Ev.pure _

theorem rvalidate_l0 (l : List Int) (h0 : 0 < l.length) (h6 : l.length ≤ 6) : ∀ m i, l.length - i = m → i ≤ l.length → goodTo l i → Ev (fun k => diaphoneref05_Validate.l0 k l (i : Int)) (vErr l) := by
  intro m
  induction m with
  | zero =>
    intro i hm hi hg
    have : i = l.length := by omega
    subst this
    refine Ev.step (Ev.pure (vErr l)) fun k => ?_
    rw [diaphoneref05_Validate.l0, if_neg (by omega), if_pos (by rw [wrap_pred (by omega) h0]; omega), if_pos (by rw [wrap_pred (by omega) h0]; omega), if_pos (by omega)]
    exact v_end l h0 h6 hg
  | succ m ih =>
    intro i hm hi hg
    have hlt : i < l.length := by omega
    by_cases hb : badAt l i
    · refine Ev.step (Ev.pure (vErr l)) fun k => ?_
      rw [diaphoneref05_Validate.l0, if_pos (by omega), if_pos (by omega), within_ref, Option.bind_some, v_bad l h0 h6 i hlt hb, rd_at]
      by_cases hr : -60 ≤ at_ l i ∧ at_ l i ≤ 60
      · have hb2 : 0 < i ∧ at_ l i ≤ at_ l (i - 1) := by unfold badAt at hb; omega
        rw [if_pos (by simpa using hr), if_pos (by omega), wrap_pred (by omega) hb2.1, if_pos (by omega), if_pos (by omega), rd_at, if_pos (by omega)]
      · rw [if_neg (by simpa using hr)]
    · have hb' := hb
      unfold badAt at hb'
      refine Ev.step (ih (i + 1) (by omega) (by omega) (fun j hj => by
        by_cases e : j = i
        · subst e; exact hb
        · exact hg j (by omega))) fun k => ?_
      rw [diaphoneref05_Validate.l0, if_pos (by omega), if_pos (by omega), within_ref, Option.bind_some, rd_at, if_pos (by simp; omega), wrap_succ (by omega)]
      by_cases hi0 : 0 < i
      · rw [if_pos (by omega), wrap_pred (by omega) hi0, if_pos (by omega), if_pos (by omega), rd_at, if_neg (by omega)]
      · rw [if_neg (by omega)]
theorem rvalidate_ev (l : List Int) : Ev (fun k => diaphoneref05_Validate.f k l) (vErr l) := by
  unfold diaphoneref05_Validate.f
  rw [within_ref]
  refine Ev.some_bind ?_
  by_cases h : 1 ≤ l.length ∧ l.length ≤ 6
  · simp only [if_pos (show decide ((1 : Int) ≤ (l.length : Int) ∧ (l.length : Int) ≤ 6) = true by simp; omega)]
    exact rvalidate_l0 l (by omega) h.2 l.length 0 (by omega) (by omega) (fun _ hj => by omega)
  · simp only [if_neg (show ¬ decide ((1 : Int) ≤ (l.length : Int) ∧ (l.length : Int) ≤ 6) = true by simp; omega)]
    have : vErr l = 3 := by unfold vErr; rw [if_pos (by omega)]
    rw [this]
    exact Ev.pure _
theorem vErr_zero {l : List Int} (h : vErr l = 0) : V l := by
  unfold vErr at h
  split at h
  · cases h
  · split at h
    · assumption
    · cases h
theorem vErr_of {l : List Int} (h : V l) : vErr l = 0 := by
  unfold vErr
  rw [if_neg (by have := h.pos; have := h.six; omega), if_pos h]
end Go.Proofs.Ytlbhedhbakhhlaa.Q

/- The document's sort by swaps, and when two rows are the same. -/
namespace Go.Proofs.Ytlbhedhbakhhlaa.Q
open Go.RowKit Go.Proofs.YtlbhedhbakhhlaaW.PrintWords Go.Proofs.YtlbhedhbakhhlaaW.PrintLast Go.Proofs.YtlbhedhbakhhlaaW.PrintMore

theorem same_l0 (x y : List Int) (hx : x.length < 9223372036854775807) (hl : x.length = y.length) :
    ∀ m i, x.length - i = m → i ≤ x.length → Ev (fun k => diaphoneref05_SameInts.l0 k x y (i : Int)) (decide (x.drop i = y.drop i)) := by
  intro m
  induction m with
  | zero =>
    intro i hm hi
    rw [List.drop_of_length_le (by omega : x.length ≤ i), List.drop_of_length_le (by omega : y.length ≤ i)]
    refine Ev.step (Ev.pure _) fun k => ?_
    rw [diaphoneref05_SameInts.l0, if_neg (by omega)]
    rfl
  | succ m ih =>
    intro i hm hi
    have hix : i < x.length := by omega
    have hiy : i < y.length := by omega
    rw [List.drop_eq_getElem_cons hix, List.drop_eq_getElem_cons hiy]
    by_cases he : x[i] = y[i]
    · have e : decide (x[i] :: x.drop (i + 1) = y[i] :: y.drop (i + 1)) = decide (x.drop (i + 1) = y.drop (i + 1)) := by simp only [he, List.cons.injEq, true_and]
      rw [e]
      refine Ev.step (ih (i + 1) (by omega) (by omega)) fun k => ?_
      rw [diaphoneref05_SameInts.l0, if_pos (by omega), if_pos (by omega), if_pos (by omega), rd_lt x i hix, rd_lt y i hiy, if_pos he, wrap_succ (by omega)]
    · have e : decide (x[i] :: x.drop (i + 1) = y[i] :: y.drop (i + 1)) = false := by simp only [List.cons.injEq, he, false_and, decide_false]
      rw [e]
      refine Ev.step (Ev.pure _) fun k => ?_
      rw [diaphoneref05_SameInts.l0, if_pos (by omega), if_pos (by omega), if_pos (by omega), rd_lt x i hix, rd_lt y i hiy, if_neg he]
theorem same_ev (x y : List Int) (hx : x.length < 9223372036854775807) : Ev (fun k => diaphoneref05_SameInts.f k x y) (decide (x = y)) := by
  unfold diaphoneref05_SameInts.f
  by_cases hl : x.length = y.length
  · simp only [if_pos (show (x.length : Int) = (y.length : Int) by omega)]
    have := same_l0 x y hx hl x.length 0 (by omega) (by omega)
    simpa using this
  · simp only [if_neg (show ¬ (x.length : Int) = (y.length : Int) by omega)]
    have : x ≠ y := fun h => hl (by rw [h])
    simp only [this, decide_false]
    exact Ev.pure _

def at' (l : List Int) (i : Nat) : Int := l.getD i 0
theorem at'_lt {l : List Int} {i : Nat} (h : i < l.length) : at' l i = l[i] := by
  unfold at'
  rw [List.getD_eq_getElem?_getD, List.getElem?_eq_getElem h]
  rfl
theorem at'_set {l : List Int} {i j : Nat} {x : Int} (h : i < l.length) : at' (l.set i x) j = if j = i then x else at' l j := by
  unfold at'
  rw [List.getD_eq_getElem?_getD, List.getD_eq_getElem?_getD, List.getElem?_set]
  by_cases e : i = j
  · subst e; simp [h]
  · rw [if_neg e, if_neg (Ne.symm e)]

/-- Places a < b up to i are in order, where b is not j. -/
def Near (x : List Int) (i j : Nat) : Prop := ∀ a b, a < b → b ≤ i → b ≠ j → at' x a ≤ at' x b
theorem sorted_end {x l : List Int} (hp : x.Perm l) (hs : ∀ a b, a < b → b < x.length → at' x a ≤ at' x b) : x = isortI l := by
  refine List.Perm.eq_of_pairwise (le := fun a b => leI a b = true) (fun a b _ _ => leI_anti a b) ?_ (sortBy_sorted leI_trans leI_total l) (hp.trans (sortBy_perm leI l).symm)
  rw [List.pairwise_iff_getElem]
  intro a b ha hb hab
  have := hs a b hab hb
  rw [at'_lt ha, at'_lt hb] at this
  simpa [leI] using this
def swapD (x : List Int) (j : Nat) : List Int := (x.set j (at' x (j - 1))).set (j - 1) (at' x j)
theorem swapD_perm {x : List Int} {j : Nat} (h0 : 0 < j) (h : j < x.length) : (swapD x j).Perm x := by
  unfold swapD
  rw [at'_lt h, at'_lt (by omega : j - 1 < x.length)]
  exact List.set_set_perm h (by omega)
theorem swapD_at {x : List Int} {j : Nat} (h0 : 0 < j) (h : j < x.length) (a : Nat) : at' (swapD x j) a = if a = j - 1 then at' x j else if a = j then at' x (j - 1) else at' x a := by
  unfold swapD
  rw [at'_set (by simp; omega), at'_set h]

theorem sorted_l (l : List Int) (hl : l.length < 9223372036854775807) :
    ∀ m i (x : List Int), l.length - i = m → i ≤ l.length → x.Perm l → (∀ a b, a < b → b < i → at' x a ≤ at' x b) → Ev (fun k => diaphoneref05_sorted.l0 k x (i : Int)) (isortI l) := by
  intro m
  induction m with
  | zero =>
    intro i x hm hi hp hs
    have hx : x.length = l.length := hp.length_eq
    have hi' : i = l.length := by omega
    subst hi'
    rw [← sorted_end hp (fun a b hab hb => hs a b hab (by omega))]
    refine Ev.step (Ev.pure x) fun k => ?_
    rw [diaphoneref05_sorted.l0, if_neg (by omega)]
  | succ m ih =>
    intro i x hm hi hp hs
    have hx : x.length = l.length := hp.length_eq
    have key : ∀ j (x : List Int), j ≤ i → x.Perm l → Near x i j → Ev (fun k => diaphoneref05_sorted.l1 k x (i : Int) (j : Int)) (isortI l) := by
      intro j
      induction j with
      | zero =>
        intro x hj hp hn
        refine Ev.step (ih (i + 1) x (by omega) (by omega) hp (fun a b hab hb => hn a b hab (by omega) (by omega))) fun k => ?_
        rw [diaphoneref05_sorted.l1, if_neg (by omega), wrap_succ (by omega)]
      | succ j ihj =>
        intro x hj hp hn
        have hx : x.length = l.length := hp.length_eq
        by_cases hgt : at' x j > at' x (j + 1)
        · refine Ev.step (ihj (swapD x (j + 1)) (by omega) ((swapD_perm (by omega) (by omega)).trans hp) ?_) fun k => ?_
          · intro a b hab hb hne
            rw [swapD_at (by omega) (by omega), swapD_at (by omega) (by omega), Nat.add_sub_cancel, if_neg hne]
            have ha1 := hn a b hab hb
            have ha2 := hn a j
            have ha3 := hn j b
            have ha4 := hn (j + 1) b
            by_cases e1 : b = j + 1
            · subst e1
              rw [if_pos rfl]
              by_cases e2 : a = j
              · subst e2; rw [if_pos rfl]; omega
              · rw [if_neg e2, if_neg (by omega)]
                exact ha2 (by omega) (by omega) (by omega)
            · rw [if_neg e1]
              by_cases e2 : a = j
              · subst e2; rw [if_pos rfl]; exact ha4 (by omega) hb e1
              · rw [if_neg e2]
                by_cases e3 : a = j + 1
                · subst e3; rw [if_pos rfl]; exact ha3 (by omega) hb e1
                · rw [if_neg e3]; exact ha1 e1
          · rw [diaphoneref05_sorted.l1, if_pos (by omega), wrap_pred (by omega) (by omega), if_pos (by omega), if_pos (by omega), if_pos (by omega), if_pos (by omega)]
            rw [if_pos (show rd x ((j + 1 - 1 : Nat) : Int) > rd x ((j + 1 : Nat) : Int) from hgt)]
            rfl
        · refine Ev.step (ih (i + 1) x (by omega) (by omega) hp (fun a b hab hb => ?_)) fun k => ?_
          · by_cases e : b = j + 1
            · subst e
              by_cases e2 : a = j
              · subst e2; omega
              · have := hn a j (by omega) (by omega) (by omega)
                omega
            · exact hn a b hab (by omega) e
          · rw [diaphoneref05_sorted.l1, if_pos (by omega), wrap_pred (by omega) (by omega), if_pos (by omega), if_pos (by omega), if_pos (by omega), if_pos (by omega)]
            rw [if_neg (show ¬ rd x ((j + 1 - 1 : Nat) : Int) > rd x ((j + 1 : Nat) : Int) from hgt), wrap_succ (by omega)]
    refine Ev.step (key i x (Nat.le_refl _) hp (fun a b hab hb hne => hs a b hab (by omega))) fun k => ?_
    rw [diaphoneref05_sorted.l0, if_pos (by omega)]
theorem sorted_ev (l : List Int) (hl : l.length < 17592186044416) : Ev (fun k => diaphoneref05_sorted.f k l) (isortI l) := by
  unfold diaphoneref05_sorted.f
  refine Ev.some_bind ?_
  simp only [List.length_nil, Nat.zero_add, if_pos hl, List.nil_append]
  exact sorted_l l (by omega) l.length 0 l (by omega) (by omega) (.refl _) (fun a b _ hb => by omega)
end Go.Proofs.Ytlbhedhbakhhlaa.Q

/- The delays, by the code and by the document, and whether none comes twice. -/
namespace Go.Proofs.Ytlbhedhbakhhlaa.Q
open Go.RowKit Go.Proofs.YtlbhedhbakhhlaaW.PrintWords Go.Proofs.YtlbhedhbakhhlaaW.PrintLast Go.Proofs.YtlbhedhbakhhlaaW.PrintMore

/-- Few numbers, all small. -/
structure Small (c : List Int) : Prop where
  len : c.length ≤ 1000
  at_ : ∀ i, -1000000 ≤ at_ c i ∧ at_ c i ≤ 1000000
theorem at_ge (l : List Int) (i : Nat) (h : l.length ≤ i) : at_ l i = 0 := by
  unfold at_
  rw [List.getD_eq_getElem?_getD, List.getElem?_eq_none h]
  rfl
theorem V.small {c : List Int} (h : V c) : Small c where
  len := by have := h.six; omega
  at_ := fun i => by
    by_cases hi : i < c.length
    · have := h.range hi; omega
    · rw [at_ge c i (by omega)]; omega

def dif (c : List Int) (a b : Nat) : Int := at_ c a - at_ c b
/-- The delays of the first n cliffs. -/
def D (c : List Int) : Nat → List Int
  | 0 => []
  | n + 1 => D c n ++ (List.range n).map (dif c n)
theorem D_len (c : List Int) : ∀ n, n ≤ 1000 → (D c n).length ≤ n * 1000
  | 0, _ => by simp [D]
  | n + 1, h => by
    have := D_len c n (by omega)
    simp only [D, List.length_append, List.length_map, List.length_range]
    omega
theorem dif_wrap {c : List Int} (h : Small c) (a b : Nat) : wrap64 (at_ c a - at_ c b) = dif c a b := by
  have h1 := h.at_ a
  have h2 := h.at_ b
  exact wrap_of (by omega) (by omega)
theorem part_succ (c : List Int) (i j : Nat) : D c i ++ (List.range (j + 1)).map (dif c i) = (D c i ++ (List.range j).map (dif c i)) ++ [dif c i j] := by
  rw [List.range_succ, List.map_append, List.append_assoc]
  rfl
theorem part_len {c : List Int} (h : Small c) (i j : Nat) (hi : i ≤ 1000) (hj : j ≤ 1000) : (D c i ++ (List.range j).map (dif c i)).length < 17592186044416 := by
  have := D_len c i hi
  simp only [List.length_append, List.length_map, List.length_range]
  omega
theorem sort_ev (l : List Int) (h : l.length < 17592186044416) : slices_Sort_int_int.f l = some (isortI l) := by
  unfold slices_Sort_int_int.f
  rw [if_pos h]
theorem rd_take (c : List Int) (i j : Nat) (h : j < i) : rd (c.take i) (j : Int) = at_ c j := by
  show (c.take i).getD j 0 = c.getD j 0
  rw [List.getD_eq_getElem?_getD, List.getD_eq_getElem?_getD, List.getElem?_take_of_lt h]

theorem delays_l0 {c : List Int} (h : Small c) : ∀ m i, c.length - i = m → i ≤ c.length → Ev (fun k => echo_delays.l0 k c (D c i) c (c.length : Int) (i : Int)) (isortI (D c c.length)) := by
  have hlen := h.len
  intro m
  induction m with
  | zero =>
    intro i hm hi
    have : i = c.length := by omega
    subst this
    refine Ev.step (Ev.pure _) fun k => ?_
    have := D_len c c.length h.len
    rw [echo_delays.l0, if_neg (by omega), sort_ev _ (by omega)]
    rfl
  | succ m ih =>
    intro i hm hi
    have key : ∀ m' j, i - j = m' → j ≤ i → Ev (fun k => echo_delays.l1 k c (D c i ++ (List.range j).map (dif c i)) (at_ c i) c (c.length : Int) (i : Int) (c.take i) ((c.take i).length : Int) (j : Int)) (isortI (D c c.length)) := by
      intro m'
      induction m' with
      | zero =>
        intro j hm' hj
        have : j = i := by omega
        subst this
        refine Ev.step (ih (j + 1) (by omega) (by omega)) fun k => ?_
        rw [echo_delays.l1, if_neg (by rw [List.length_take]; omega), wrap_succ (by omega)]
        rfl
      | succ m' ih' =>
        intro j hm' hj
        refine Ev.step (ih' (j + 1) (by omega) (by omega)) fun k => ?_
        rw [echo_delays.l1, if_pos (by rw [List.length_take]; omega), if_pos (by omega), if_pos (by rw [List.length_take]; omega), if_pos (part_len h i j (by omega) (by omega)), rd_take c i j (by omega), dif_wrap h, wrap_succ (by omega), ← part_succ]
    refine Ev.step (key i 0 (by omega) (by omega)) fun k => ?_
    rw [echo_delays.l0, if_pos (by omega), if_pos (by omega), if_pos (by omega), if_pos (by omega), Int.toNat_natCast, rd_at]
    simp
theorem delays_ev {c : List Int} (h : Small c) : Ev (fun k => echo_delays.f k c) (isortI (D c c.length)) := by
  unfold echo_delays.f
  exact delays_l0 h c.length 0 (by omega) (by omega)

theorem rdelays_l0 {c : List Int} (h : Small c) : ∀ m i, c.length - i = m → i ≤ c.length → Ev (fun k => diaphoneref05_delays.l0 k c (D c i) (i : Int)) (isortI (D c c.length)) := by
  have hlen := h.len
  intro m
  induction m with
  | zero =>
    intro i hm hi
    have : i = c.length := by omega
    subst this
    have := D_len c c.length h.len
    refine Ev.step (Ev.bind (sorted_ev (D c c.length) (by omega)) (Ev.pure _)) fun k => ?_
    rw [diaphoneref05_delays.l0, if_neg (by omega)]
  | succ m ih =>
    intro i hm hi
    have key : ∀ m' j, i - j = m' → j ≤ i → Ev (fun k => diaphoneref05_delays.l1 k c (D c i ++ (List.range j).map (dif c i)) (i : Int) (j : Int)) (isortI (D c c.length)) := by
      intro m'
      induction m' with
      | zero =>
        intro j hm' hj
        have : j = i := by omega
        subst this
        refine Ev.step (ih (j + 1) (by omega) (by omega)) fun k => ?_
        rw [diaphoneref05_delays.l1, if_neg (by omega), wrap_succ (by omega)]
        rfl
      | succ m' ih' =>
        intro j hm' hj
        refine Ev.step (ih' (j + 1) (by omega) (by omega)) fun k => ?_
        rw [diaphoneref05_delays.l1, if_pos (by omega), if_pos (by omega), if_pos (by omega), if_pos (by omega), if_pos (by omega), if_pos (part_len h i j (by omega) (by omega)), rd_at, rd_at, dif_wrap h, wrap_succ (by omega), ← part_succ]
    refine Ev.step (key i 0 (by omega) (by omega)) fun k => ?_
    rw [diaphoneref05_delays.l0, if_pos (by omega)]
    simp
theorem rdelays_ev {c : List Int} (h : Small c) : Ev (fun k => diaphoneref05_delays.f k c) (isortI (D c c.length)) := by
  unfold diaphoneref05_delays.f
  exact rdelays_l0 h c.length 0 (by omega) (by omega)

/-- All delays, sorted. -/
def dl (c : List Int) : List Int := isortI (D c c.length)
theorem dl_len {c : List Int} (h : Small c) : (dl c).length ≤ 1000000 := by
  unfold dl isortI
  rw [(sortBy_perm leI _).length_eq]
  have := D_len c c.length h.len
  have := h.len
  omega

/-! ### None twice -/
def allKept (s : List Int) : Prop := ∀ j, j < s.length → Lib.keeps s.toArray j = true
instance (s : List Int) : Decidable (allKept s) := inferInstanceAs (Decidable (∀ j, j < s.length → Lib.keeps s.toArray j = true))
theorem compact_len (s : List Int) : (Lib.compact s).length = s.length ↔ allKept s := by
  unfold Lib.compact Lib.compactUpTo
  rw [List.length_map]
  have h : ((List.range s.length).filter (Lib.keeps s.toArray)).length = (List.range s.length).length ↔ ∀ a ∈ List.range s.length, Lib.keeps s.toArray a = true := List.length_filter_eq_length_iff
  rw [List.length_range] at h
  rw [h]
  simp [allKept]
theorem compact_le (s : List Int) : (Lib.compact s).length ≤ s.length := by
  unfold Lib.compact Lib.compactUpTo
  rw [List.length_map]
  have := List.length_filter_le (Lib.keeps s.toArray) (List.range s.length)
  simpa using this
theorem keeps_at (s : List Int) (j : Nat) (hj : j < s.length) : Lib.keeps s.toArray j = decide (j = 0 ∨ at_ s j ≠ at_ s (j - 1)) := by
  unfold Lib.keeps
  have e : ∀ i, i < s.length → s.toArray[i]! = at_ s i := fun i hi => by
    rw [getElem!_pos _ _ (by simpa using hi), at_lt s i hi]
    simp
  rw [e j hj, e (j - 1) (by omega)]
theorem isRuler_ev {c : List Int} (h : Small c) : Ev (fun k => echo_isRuler.f k c) (decide (allKept (dl c))) := by
  unfold echo_isRuler.f
  refine Ev.bind (delays_ev h) ?_
  have hl := dl_len h
  unfold dl at hl
  unfold slices_Clone_int_int.f slices_Compact_int_int.f
  simp only [if_pos (show (isortI (D c c.length)).length < 17592186044416 by omega), Option.bind_some]
  have e : (((Lib.compact (isortI (D c c.length))).length : Int) == ((isortI (D c c.length)).length : Int)) = decide (allKept (dl c)) := by
    rw [Bool.eq_iff_iff]
    simp only [beq_iff_eq, decide_eq_true_eq]
    rw [← compact_len]
    unfold dl
    omega
  rw [e]
  exact Ev.pure _
theorem ruler_l0 (s : List Int) (hs : s.length ≤ 1000000) : ∀ m i, s.length - i = m → 0 < i → (∀ j, j < i → j < s.length → Lib.keeps s.toArray j = true) → Ev (fun k => diaphoneref05_ruler.l0 k s (i : Int)) (decide (allKept s)) := by
  intro m
  induction m with
  | zero =>
    intro i hm hi hk
    have e : decide (allKept s) = true := decide_eq_true (fun j hj => hk j (by omega) hj)
    rw [e]
    refine Ev.step (Ev.pure _) fun k => ?_
    rw [diaphoneref05_ruler.l0, if_neg (by omega)]
  | succ m ih =>
    intro i hm hi hk
    by_cases he : at_ s i = at_ s (i - 1)
    · have e : decide (allKept s) = false := decide_eq_false (fun hall => by
        have := hall i (by omega)
        rw [keeps_at s i (by omega), decide_eq_true_eq] at this
        omega)
      rw [e]
      refine Ev.step (Ev.pure _) fun k => ?_
      rw [diaphoneref05_ruler.l0, if_pos (by omega), if_pos (by omega), wrap_pred (by omega) hi, if_pos (by omega), if_pos (by omega), rd_at, rd_at, if_pos he]
    · refine Ev.step (ih (i + 1) (by omega) (by omega) (fun j hj hjl => ?_)) fun k => ?_
      · by_cases e : j = i
        · subst e
          rw [keeps_at s j hjl]
          simp [he]
        · exact hk j (by omega) hjl
      · rw [diaphoneref05_ruler.l0, if_pos (by omega), if_pos (by omega), wrap_pred (by omega) hi, if_pos (by omega), if_pos (by omega), rd_at, rd_at, if_neg he, wrap_succ (by omega)]
theorem ruler_ev {c : List Int} (h : Small c) : Ev (fun k => diaphoneref05_ruler.f k c) (decide (allKept (dl c))) := by
  unfold diaphoneref05_ruler.f
  exact Ev.bind (rdelays_ev h) (ruler_l0 (dl c) (dl_len h) _ 1 rfl (by omega) (fun j hj hl => by
    have : j = 0 := by omega
    subst this
    rw [keeps_at _ _ hl]
    simp))

/-! ### Delays and IsRuler -/
theorem Delays_ev (c : List Int) : Ev (fun k => echo_Delays.f k c) (if vErr c = 0 then dl c else [], vErr c) := by
  unfold echo_Delays.f
  refine Ev.bind (validate_ev c) ?_
  by_cases h : vErr c = 0
  · simp only [if_pos h]
    rw [h]
    exact Ev.bind (delays_ev (vErr_zero h).small) (Ev.pure _)
  · simp only [if_neg h]
    exact Ev.pure _
theorem RDelays_ev (c : List Int) : Ev (fun k => diaphoneref05_Delays.f k c) (if vErr c = 0 then dl c else [], vErr c) := by
  unfold diaphoneref05_Delays.f
  refine Ev.bind (rvalidate_ev c) ?_
  by_cases h : vErr c = 0
  · simp only [if_pos h]
    rw [h]
    exact Ev.bind (rdelays_ev (vErr_zero h).small) (Ev.pure _)
  · simp only [if_neg h]
    exact Ev.pure _
theorem IsRuler_ev (c : List Int) : Ev (fun k => echo_IsRuler.f k c) (if vErr c = 0 then decide (allKept (dl c)) else false, vErr c) := by
  unfold echo_IsRuler.f
  refine Ev.bind (validate_ev c) ?_
  by_cases h : vErr c = 0
  · simp only [if_pos h]
    rw [h]
    exact Ev.bind (isRuler_ev (vErr_zero h).small) (Ev.pure _)
  · simp only [if_neg h]
    exact Ev.pure _
theorem RIsRuler_ev (c : List Int) : Ev (fun k => diaphoneref05_IsRuler.f k c) (if vErr c = 0 then decide (allKept (dl c)) else false, vErr c) := by
  unfold diaphoneref05_IsRuler.f
  refine Ev.bind (rvalidate_ev c) ?_
  by_cases h : vErr c = 0
  · simp only [if_pos h]
    rw [h]
    exact Ev.bind (ruler_ev (vErr_zero h).small) (Ev.pure _)
  · simp only [if_neg h]
    exact Ev.pure _
end Go.Proofs.Ytlbhedhbakhhlaa.Q

/- The differences of the pairs of a row: what moving and mirroring do to them. -/
namespace Go.Proofs.Ytlbhedhbakhhlaa.Q
open Go.RowKit Go.Proofs.YtlbhedhbakhhlaaW.PrintWords Go.Proofs.YtlbhedhbakhhlaaW.PrintLast Go.Proofs.YtlbhedhbakhhlaaW.PrintMore

theorem isortI_perm (l : List Int) : (isortI l).Perm l := sortBy_perm leI l
theorem isortI_sorted (l : List Int) : (isortI l).Pairwise (fun a b => a ≤ b) := by
  have := sortBy_sorted leI_trans leI_total l
  exact this.imp (fun h => by simpa [leI] using h)
theorem isortI_uniq {s l : List Int} (hp : s.Perm l) (hs : s.Pairwise (fun a b => a ≤ b)) : s = isortI l :=
  List.Perm.eq_of_pairwise (le := fun a b => a ≤ b) (fun a b _ _ h1 h2 => by omega) hs (isortI_sorted l) (hp.trans (isortI_perm l).symm)
theorem isortI_congr {l m : List Int} (h : l.Perm m) : isortI l = isortI m := isortI_uniq ((isortI_perm l).trans h) (isortI_sorted l)

/-- All differences of a later and an earlier one. -/
def P : List Int → List Int
  | [] => []
  | a :: t => t.map (fun x => x - a) ++ P t
theorem P_snoc : ∀ (l : List Int) (b : Int), (P (l ++ [b])).Perm (l.map (fun x => b - x) ++ P l)
  | [], b => by simp [P]
  | a :: t, b => by
    have ih := P_snoc t b
    simp only [List.cons_append, P, List.map_append, List.map_cons, List.map_nil, List.append_assoc]
    -- (t - a) ++ [b - a] ++ P (t ++ [b])  ~  (b - a) :: ((b - t) ++ ((t - a) ++ P t))
    have sw : ∀ X Y Z : List Int, (X ++ (Y ++ Z)).Perm (Y ++ (X ++ Z)) := fun X Y Z => by
      have := (List.perm_append_comm (l₁ := X) (l₂ := Y)).append_right Z
      simpa only [List.append_assoc] using this
    refine ((ih.append_left [b - a]).append_left _).trans ?_
    refine (sw _ [b - a] _).trans ?_
    exact (sw _ (t.map (fun x => b - x)) _).append_left [b - a]
theorem P_mirror (s : Int) : ∀ l : List Int, (P (l.reverse.map (fun x => s - x))).Perm (P l)
  | [] => by simp
  | a :: t => by
    rw [List.reverse_cons, List.map_append, List.map_cons, List.map_nil]
    refine (P_snoc _ _).trans ?_
    rw [List.map_map, P]
    refine List.Perm.append ?_ (P_mirror s t)
    have e : ((fun x => s - a - x) ∘ fun x => s - x) = fun x => x - a := by
      funext x
      simp only [Function.comp]
      omega
    rw [e, List.map_reverse]
    exact List.reverse_perm _
theorem P_shift (b : Int) : ∀ l : List Int, P (l.map (fun x => x + b)) = P l
  | [] => rfl
  | a :: t => by
    rw [List.map_cons, P, P_shift b t, P, List.map_map]
    congr 1
    apply List.map_congr_left
    intro x _
    simp only [Function.comp]
    omega
theorem P_scale (b : Int) : ∀ l : List Int, P (l.map (fun x => x * b)) = (P l).map (fun x => b * x)
  | [] => rfl
  | a :: t => by
    rw [List.map_cons, P, P_scale b t, P, List.map_append, List.map_map, List.map_map]
    congr 1
    apply List.map_congr_left
    intro x _
    simp only [Function.comp]
    rw [Int.mul_sub, Int.mul_comm x b, Int.mul_comm a b]

theorem at_append_left (l : List Int) (b : Int) (i : Nat) (h : i < l.length) : at_ (l ++ [b]) i = at_ l i := by
  rw [at_lt _ _ (by simp; omega), at_lt _ _ h, List.getElem_append_left h]
theorem at_append_last (l : List Int) (b : Int) : at_ (l ++ [b]) l.length = b := by
  rw [at_lt _ _ (by simp)]
  simp
theorem D_append (l : List Int) (b : Int) : ∀ m, m ≤ l.length → D (l ++ [b]) m = D l m
  | 0, _ => rfl
  | m + 1, h => by
    rw [D, D, D_append l b m (by omega)]
    congr 1
    apply List.map_congr_left
    intro j hj
    have := List.mem_range.1 hj
    unfold dif
    rw [at_append_left l b m (by omega), at_append_left l b j (by omega)]
theorem range_at (l : List Int) : (List.range l.length).map (fun j => at_ l j) = l := by
  apply List.ext_getElem
  · simp
  · intro i h1 h2
    simp only [List.getElem_map, List.getElem_range]
    exact at_lt l i h2
theorem D_snoc (l : List Int) (b : Int) : D (l ++ [b]) (l ++ [b]).length = D l l.length ++ l.map (fun x => b - x) := by
  rw [List.length_append, List.length_singleton, D, D_append l b _ (Nat.le_refl _)]
  congr 1
  have : (List.range l.length).map (dif (l ++ [b]) l.length) = (List.range l.length).map ((fun x => b - x) ∘ fun j => at_ l j) := by
    apply List.map_congr_left
    intro j hj
    have := List.mem_range.1 hj
    unfold dif
    rw [at_append_last, at_append_left l b j this]
    rfl
  rw [this, ← List.map_map, range_at]
theorem D_P (c : List Int) : (D c c.length).Perm (P c) := by
  have key : ∀ n (c : List Int), c.length = n → (D c c.length).Perm (P c) := by
    intro n
    induction n with
    | zero =>
      intro c h
      obtain rfl := List.length_eq_zero_iff.1 h
      exact .refl _
    | succ n ih =>
      intro c h
      have hne : c ≠ [] := fun e => by rw [e] at h; cases h
      obtain ⟨l, b, rfl⟩ : ∃ l b, c = l ++ [b] := ⟨c.dropLast, c.getLast hne, (List.dropLast_concat_getLast hne).symm⟩
      rw [D_snoc]
      refine List.Perm.trans ?_ (P_snoc l b).symm
      refine List.perm_append_comm.trans ?_
      exact (ih l (by simpa using h)).append_left _
  exact key c.length c rfl
/-- The delays by the pairs. -/
theorem dl_P (c : List Int) : dl c = isortI (P c) := isortI_congr (D_P c)
theorem dl_shift (c : List Int) (b : Int) : dl (c.map fun x => x + b) = dl c := by rw [dl_P, dl_P, P_shift]
theorem dl_mirror (c : List Int) (s : Int) : dl (c.reverse.map fun x => s - x) = dl c := by rw [dl_P, dl_P, isortI_congr (P_mirror s c)]
end Go.Proofs.Ytlbhedhbakhhlaa.Q

/- Moving, mirroring and the normal form, by the code and by the document. -/
namespace Go.Proofs.Ytlbhedhbakhhlaa.Q
open Go.RowKit Go.Proofs.YtlbhedhbakhhlaaW.PrintWords Go.Proofs.YtlbhedhbakhhlaaW.PrintLast Go.Proofs.YtlbhedhbakhhlaaW.PrintMore

theorem Small.mem {c : List Int} (h : Small c) {x : Int} (hx : x ∈ c) : -1000000 ≤ x ∧ x ≤ 1000000 := by
  obtain ⟨i, hi, rfl⟩ := List.mem_iff_getElem.1 hx
  have := h.at_ i
  rwa [at_lt c i hi] at this
theorem at_set (l : List Int) (i j : Nat) (x : Int) (h : i < l.length) : at_ (l.set i x) j = if j = i then x else at_ l j := at'_set h

theorem shift_l0 (c : List Int) (by_ : Int) (hc : c.length ≤ 1000) (hw : ∀ x ∈ c, wrap64 (x + by_) = x + by_) :
    ∀ m i, c.length - i = m → i ≤ c.length → Ev (fun k => echo_shift.l0 k by_ ((c.take i).map (fun x => x + by_) ++ c.drop i) (c.length : Int) (i : Int)) (c.map fun x => x + by_) := by
  intro m
  induction m with
  | zero =>
    intro i hm hi
    refine Ev.step (Ev.pure _) fun k => ?_
    rw [echo_shift.l0, if_neg (by omega), List.take_of_length_le (by omega), List.drop_of_length_le (by omega), List.append_nil]
  | succ m ih =>
    intro i hm hi
    have hlt : i < c.length := by omega
    refine Ev.step (ih (i + 1) (by omega) (by omega)) fun k => ?_
    have hl : ((c.take i).map (fun x => x + by_) ++ c.drop i).length = c.length := by simp; omega
    have hat : rd ((c.take i).map (fun x => x + by_) ++ c.drop i) (i : Int) = c[i] := by
      rw [rd_lt _ i (by omega), List.getElem_append_right (by simp; omega)]
      simp [Nat.min_eq_left hi]
    rw [echo_shift.l0, if_pos (by omega), if_pos (by omega), if_pos (by omega), hat, hw _ (List.getElem_mem hlt), wrap_succ (by omega), Int.toNat_natCast]
    congr 1
    have h1 : ((c.take i).map fun x => x + by_).length = i := by simp; omega
    rw [List.set_append_right _ _ (by omega), h1, Nat.sub_self, List.drop_eq_getElem_cons hlt, List.set_cons_zero, List.take_succ_eq_append_getElem hlt, List.map_append, List.append_assoc]
    rfl
theorem shift_ev (c : List Int) (by_ : Int) (hc : c.length ≤ 1000) (hw : ∀ x ∈ c, wrap64 (x + by_) = x + by_) : Ev (fun k => echo_shift.f k c by_) (c.map fun x => x + by_) := by
  unfold echo_shift.f slices_Clone_int_int.f
  rw [if_pos (by omega)]
  refine Ev.some_bind ?_
  have := shift_l0 c by_ hc hw c.length 0 (by omega) (by omega)
  simpa using this

/-- The mirror image. -/
def mir (c : List Int) : List Int := c.reverse.map fun x => at_ c 0 + at_ c (c.length - 1) - x
theorem mirrorW_mir {c : List Int} (h : Small c) (h0 : 0 < c.length) : mirrorW c = mir c := by
  unfold mirrorW mir
  apply List.map_congr_left
  intro x hx
  have h1 := h.mem (List.mem_reverse.1 hx)
  have h2 := h.at_ 0
  have h3 := h.at_ (c.length - 1)
  have := h.len
  have e1 : wrap64 (at_ c 0 + at_ c (c.length - 1)) = at_ c 0 + at_ c (c.length - 1) := wrap_of (by omega) (by omega)
  rw [wrap_pred (by omega) h0, rd_at, rd_zero, e1, wrap_of (by omega) (by omega)]
theorem mirror_f {c : List Int} (h : Small c) (h0 : 0 < c.length) : echo_mirror.f c = some (mir c) := by
  unfold echo_mirror.f
  rw [if_pos (by have := h.len; omega), mirrorW_mir h h0]
theorem mir_len (c : List Int) : (mir c).length = c.length := by simp [mir]
theorem mir_at {c : List Int} {i : Nat} (h : i < c.length) : at_ (mir c) i = at_ c 0 + at_ c (c.length - 1) - at_ c (c.length - 1 - i) := by
  rw [at_lt _ i (by rw [mir_len]; exact h)]
  unfold mir
  rw [List.getElem_map, List.getElem_reverse, ← at_lt c]
theorem ext_at {c d : List Int} (hl : c.length = d.length) (h : ∀ i, i < c.length → at_ c i = at_ d i) : c = d := by
  apply List.ext_getElem hl
  intro i h1 h2
  rw [← at_lt, ← at_lt]
  exact h i h1
theorem mir_mir {c : List Int} (h0 : 0 < c.length) : mir (mir c) = c := by
  refine ext_at (by rw [mir_len, mir_len]) fun i hi => ?_
  rw [mir_len, mir_len] at hi
  rw [mir_at (by rw [mir_len]; exact hi), mir_len, mir_at h0, mir_at (by omega), mir_at (by omega)]
  rw [show c.length - 1 - 0 = c.length - 1 by omega, show c.length - 1 - (c.length - 1) = 0 by omega, show c.length - 1 - (c.length - 1 - i) = i by omega]
  omega

theorem rmirror_l0 {c : List Int} (h : Small c) (h0 : 0 < c.length) : ∀ n, n ≤ c.length →
    Ev (fun k => diaphoneref05_mirror.l0 k c ((c.reverse.take (c.length - n)).map fun x => at_ c 0 + at_ c (c.length - 1) - x) ((n : Int) - 1)) (mir c) := by
  have hlen := h.len
  intro n
  induction n with
  | zero =>
    intro hn
    refine Ev.step (Ev.pure _) fun k => ?_
    rw [diaphoneref05_mirror.l0, if_neg (by omega), Nat.sub_zero, List.take_of_length_le (by simp)]
    rfl
  | succ n ih =>
    intro hn
    refine Ev.step (ih (by omega)) fun k => ?_
    have h2 := h.at_ 0
    have h3 := h.at_ (c.length - 1)
    have h4 := h.at_ n
    have e1 : (((n + 1 : Nat) : Int) - 1) = (n : Int) := by omega
    rw [e1, diaphoneref05_mirror.l0, if_pos (by omega), if_pos (by omega), wrap_pred (by omega) h0, if_pos (by omega), if_pos (by omega), if_pos (by omega), if_pos (by omega), if_pos (by simp; omega)]
    have e3 : wrap64 (at_ c 0 + at_ c (c.length - 1)) = at_ c 0 + at_ c (c.length - 1) := wrap_of (by omega) (by omega)
    rw [rd_at, rd_at, rd_zero, e3, wrap_of (by omega) (by omega), wrap_of (by omega) (by omega)]
    congr 1
    have e2 : c.length - n = (c.length - (n + 1)) + 1 := by omega
    rw [e2, List.take_succ_eq_append_getElem (by simp; omega), List.map_append, List.map_cons, List.map_nil, List.getElem_reverse]
    congr 2
    rw [at_lt c n (by omega)]
    congr 2
    omega
theorem rmirror_ev {c : List Int} (h : Small c) (h0 : 0 < c.length) : Ev (fun k => diaphoneref05_mirror.f k c) (mir c) := by
  unfold diaphoneref05_mirror.f
  have := rmirror_l0 h h0 c.length (Nat.le_refl _)
  rw [wrap_of (by have := h.len; omega) (by have := h.len; omega)]
  simpa using this

theorem before_l0 (x y : List Int) (hx : x.length ≤ 1000) (hl : x.length = y.length) :
    ∀ m i, x.length - i = m → i ≤ x.length → Ev (fun k => diaphoneref05_before.l0 k x y (i : Int)) (decide (lexI (x.drop i) (y.drop i) ≤ 0)) := by
  intro m
  induction m with
  | zero =>
    intro i hm hi
    rw [List.drop_of_length_le (by omega : x.length ≤ i), List.drop_of_length_le (by omega : y.length ≤ i)]
    refine Ev.step (Ev.pure _) fun k => ?_
    rw [diaphoneref05_before.l0, if_neg (by omega)]
    rfl
  | succ m ih =>
    intro i hm hi
    have hix : i < x.length := by omega
    have hiy : i < y.length := by omega
    rw [List.drop_eq_getElem_cons hix, List.drop_eq_getElem_cons hiy]
    by_cases he : x[i] = y[i]
    · have eL : lexI (x[i] :: x.drop (i + 1)) (y[i] :: y.drop (i + 1)) = lexI (x.drop (i + 1)) (y.drop (i + 1)) := by rw [lexI, if_neg (by omega), if_neg (by omega)]
      rw [eL]
      refine Ev.step (ih (i + 1) (by omega) (by omega)) fun k => ?_
      rw [diaphoneref05_before.l0, if_pos (by omega), if_pos (by omega), if_pos (by omega), rd_lt x i hix, rd_lt y i hiy, if_pos he, wrap_succ (by omega)]
    · have eL : lexI (x[i] :: x.drop (i + 1)) (y[i] :: y.drop (i + 1)) = if x[i] < y[i] then -1 else 1 := by
        rw [lexI]
        by_cases h1 : x[i] < y[i]
        · rw [if_pos h1, if_pos h1]
        · rw [if_neg h1, if_neg h1, if_pos (by omega)]
      rw [eL]
      refine Ev.step (Ev.pure _) fun k => ?_
      rw [diaphoneref05_before.l0, if_pos (by omega), if_pos (by omega), if_pos (by omega), rd_lt x i hix, rd_lt y i hiy, if_neg he]
      by_cases h1 : x[i] < y[i]
      · simp [h1]
      · simp [h1]
theorem before_ev (x y : List Int) (hx : x.length ≤ 1000) (hl : x.length = y.length) : Ev (fun k => diaphoneref05_before.f k x y) (decide (lexI x y ≤ 0)) := by
  unfold diaphoneref05_before.f
  have := before_l0 x y hx hl x.length 0 (by omega) (by omega)
  simpa using this

/-- Moved to 0. -/
def zero (c : List Int) : List Int := c.map fun x => x + -(at_ c 0)
/-- The normal form. -/
def nf (c : List Int) : List Int := if lexI (mir (zero c)) (zero c) < 0 then mir (zero c) else zero c
theorem zero_len (c : List Int) : (zero c).length = c.length := by simp [zero]
theorem map_at (c : List Int) (f : Int → Int) (i : Nat) (h : i < c.length) : at_ (c.map f) i = f (at_ c i) := by
  rw [at_lt _ i (by simpa using h), at_lt c i h]
  simp
theorem zero_at {c : List Int} {i : Nat} (h : i < c.length) : at_ (zero c) i = at_ c i - at_ c 0 := by
  unfold zero
  rw [map_at c _ i h]
  omega
theorem V.zero_small {c : List Int} (h : V c) : Small (zero c) where
  len := by rw [zero_len]; have := h.six; omega
  at_ := fun i => by
    by_cases hi : i < c.length
    · rw [zero_at hi]
      have := h.range hi
      have := h.range h.pos
      omega
    · rw [at_ge _ _ (by rw [zero_len]; omega)]; omega
theorem nf_len (c : List Int) : (nf c).length = c.length := by
  unfold nf
  split
  · rw [mir_len, zero_len]
  · rw [zero_len]
theorem normal_ev {c : List Int} (h : V c) : Ev (fun k => echo_normal.f k c) (nf c) := by
  have h6 := h.six
  have h0 := h.pos
  have hr := h.range h0
  unfold echo_normal.f
  simp only [if_pos (show (0 : Int) < (c.length : Int) by omega), rd_zero]
  rw [wrap_of (by omega) (by omega)]
  refine Ev.bind (shift_ev c _ (by omega) (fun x hx => ?_)) ?_
  · have := h.small.mem hx
    exact wrap_of (by omega) (by omega)
  · show Ev (fun k => (echo_mirror.f (zero c)).bind fun t105 => ((slices_Compare_int_int.f k t105 (zero c)).bind fun t108 => (if t108 < 0 then (some t105) else (some (zero c))))) _
    rw [mirror_f h.zero_small (by rw [zero_len]; exact h0)]
    refine Ev.some_bind ?_
    refine Ev.bind (Ev.of ((mir (zero c)).length + 1) (fun k hk => compare_ev _ _ (by rw [mir_len, zero_len]; omega) k (by omega))) ?_
    unfold nf
    by_cases hlt : lexI (mir (zero c)) (zero c) < 0
    · simp only [if_pos hlt]; exact Ev.pure _
    · simp only [if_neg hlt]; exact Ev.pure _
theorem rnormal_l0 {c : List Int} (h : V c) : ∀ m i, c.length - i = m → i ≤ c.length → Ev (fun k => diaphoneref05_normal.l0 k c ((zero c).take i) (i : Int)) (nf c) := by
  have h6 := h.six
  have h0 := h.pos
  have hzl := zero_len c
  intro m
  induction m with
  | zero =>
    intro i hm hi
    have : i = c.length := by omega
    subst this
    rw [List.take_of_length_le (by omega)]
    refine Ev.step (g := fun k => (diaphoneref05_mirror.f k (zero c)).bind fun t106 => ((diaphoneref05_before.f k (zero c) t106).bind fun t109 => (if t109 = true then (some (zero c)) else ((diaphoneref05_mirror.f k (zero c)).bind fun t110 => (some t110))))) ?_ fun k => ?_
    · refine Ev.bind (rmirror_ev h.zero_small (by omega)) ?_
      refine Ev.bind (before_ev _ _ (by omega) (by rw [mir_len])) ?_
      have ha := lexI_anti (mir (zero c)) (zero c)
      unfold nf
      by_cases hlt : lexI (mir (zero c)) (zero c) < 0
      · rw [if_pos hlt]
        simp only [decide_eq_true_eq, if_neg (show ¬ lexI (zero c) (mir (zero c)) ≤ 0 by omega)]
        exact Ev.bind (rmirror_ev h.zero_small (by omega)) (Ev.pure _)
      · rw [if_neg hlt]
        simp only [decide_eq_true_eq, if_pos (show lexI (zero c) (mir (zero c)) ≤ 0 by omega)]
        exact Ev.pure _
    · rw [diaphoneref05_normal.l0, if_neg (by omega)]
  | succ m ih =>
    intro i hm hi
    have hlt : i < c.length := by omega
    refine Ev.step (ih (i + 1) (by omega) (by omega)) fun k => ?_
    have hr := h.range hlt
    have hr0 := h.range h0
    rw [diaphoneref05_normal.l0, if_pos (by omega), if_pos (by omega), if_pos (by omega), if_pos (by simp; omega), rd_at, rd_zero, wrap_of (by omega) (by omega), wrap_succ (by omega)]
    congr 1
    rw [List.take_succ_eq_append_getElem (by omega), ← at_lt, zero_at hlt]
theorem rnormal_ev {c : List Int} (h : V c) : Ev (fun k => diaphoneref05_normal.f k c) (nf c) := by
  unfold diaphoneref05_normal.f
  have := rnormal_l0 h c.length 0 (by omega) (by omega)
  simpa using this

/-! ### Normal, Same, Alike -/
theorem Normal_ev (c : List Int) : Ev (fun k => echo_Normal.f k c) (if vErr c = 0 then nf c else [], vErr c) := by
  unfold echo_Normal.f
  refine Ev.bind (validate_ev c) ?_
  by_cases h : vErr c = 0
  · simp only [if_pos h]
    rw [h]
    exact Ev.bind (normal_ev (vErr_zero h)) (Ev.pure _)
  · simp only [if_neg h]
    exact Ev.pure _
theorem RNormal_ev (c : List Int) : Ev (fun k => diaphoneref05_Normal.f k c) (if vErr c = 0 then nf c else [], vErr c) := by
  unfold diaphoneref05_Normal.f
  refine Ev.bind (rvalidate_ev c) ?_
  by_cases h : vErr c = 0
  · simp only [if_pos h]
    rw [h]
    exact Ev.bind (rnormal_ev (vErr_zero h)) (Ev.pure _)
  · simp only [if_neg h]
    exact Ev.pure _
def bErr (c d : List Int) : Int := if vErr c = 0 then vErr d else vErr c
theorem bErr_zero {c d : List Int} (h : bErr c d = 0) : V c ∧ V d := by
  unfold bErr at h
  split at h
  · rename_i h1
    exact ⟨vErr_zero h1, vErr_zero h⟩
  · contradiction
theorem bErr_of {c d : List Int} (h : V c) (h' : V d) : bErr c d = 0 := by
  unfold bErr
  rw [if_pos (vErr_of h), vErr_of h']
theorem both_ev (c d : List Int) : Ev (fun k => echo_both.f k c d) (bErr c d) := by
  unfold echo_both.f bErr
  refine Ev.bind (validate_ev c) ?_
  by_cases h : vErr c = 0
  · simp only [if_pos h]
    exact Ev.bind (validate_ev d) (Ev.pure _)
  · simp only [if_neg h]
    exact Ev.pure _
theorem two_ev (c d : List Int) : Ev (fun k => diaphoneref05_two.f k c d) (bErr c d) := by
  unfold diaphoneref05_two.f bErr
  refine Ev.bind (rvalidate_ev c) ?_
  by_cases h : vErr c = 0
  · simp only [if_pos h]
    exact Ev.bind (rvalidate_ev d) (Ev.pure _)
  · simp only [if_neg h]
    exact Ev.pure _
theorem eq_ev (x y : List Int) (hx : x.length ≤ 1000000) : Ev (fun k => slices_Equal_int_int.f k x y) (decide (x = y)) := Ev.of (x.length + 1) (fun k hk => equal_ev x y (by omega) k (by omega))
theorem Same_ev (c d : List Int) : Ev (fun k => echo_Same.f k c d) (if bErr c d = 0 then decide (dl c = dl d) else false, bErr c d) := by
  unfold echo_Same.f
  refine Ev.bind (both_ev c d) ?_
  by_cases h : bErr c d = 0
  · simp only [if_pos h]
    rw [h]
    obtain ⟨h1, h2⟩ := bErr_zero h
    exact Ev.bind (delays_ev h1.small) (Ev.bind (delays_ev h2.small) (Ev.bind (eq_ev _ _ (dl_len h1.small)) (Ev.pure _)))
  · simp only [if_neg h]
    exact Ev.pure _
theorem RSame_ev (c d : List Int) : Ev (fun k => diaphoneref05_Same.f k c d) (if bErr c d = 0 then decide (dl c = dl d) else false, bErr c d) := by
  unfold diaphoneref05_Same.f
  refine Ev.bind (two_ev c d) ?_
  by_cases h : bErr c d = 0
  · simp only [if_pos h]
    rw [h]
    obtain ⟨h1, h2⟩ := bErr_zero h
    exact Ev.bind (rdelays_ev h1.small) (Ev.bind (rdelays_ev h2.small) (Ev.bind (same_ev _ _ (by have := dl_len h1.small; unfold dl at this; omega)) (Ev.pure _)))
  · simp only [if_neg h]
    exact Ev.pure _
theorem Alike_ev (c d : List Int) : Ev (fun k => echo_Alike.f k c d) (if bErr c d = 0 then decide (nf c = nf d) else false, bErr c d) := by
  unfold echo_Alike.f
  refine Ev.bind (both_ev c d) ?_
  by_cases h : bErr c d = 0
  · simp only [if_pos h]
    rw [h]
    obtain ⟨h1, h2⟩ := bErr_zero h
    exact Ev.bind (normal_ev h1) (Ev.bind (normal_ev h2) (Ev.bind (eq_ev _ _ (by rw [nf_len]; have := h1.six; omega)) (Ev.pure _)))
  · simp only [if_neg h]
    exact Ev.pure _
theorem RAlike_ev (c d : List Int) : Ev (fun k => diaphoneref05_Alike.f k c d) (if bErr c d = 0 then decide (nf c = nf d) else false, bErr c d) := by
  unfold diaphoneref05_Alike.f
  refine Ev.bind (two_ev c d) ?_
  by_cases h : bErr c d = 0
  · simp only [if_pos h]
    rw [h]
    obtain ⟨h1, h2⟩ := bErr_zero h
    exact Ev.bind (rnormal_ev h1) (Ev.bind (rnormal_ev h2) (Ev.bind (same_ev _ _ (by rw [nf_len]; have := h1.six; omega)) (Ev.pure _)))
  · simp only [if_neg h]
    exact Ev.pure _

/-! ### The delays of the normal form -/
theorem dl_zero (c : List Int) : dl (zero c) = dl c := dl_shift c _
theorem dl_mir (c : List Int) : dl (mir c) = dl c := dl_mirror c _
theorem dl_nf (c : List Int) : dl (nf c) = dl c := by
  unfold nf
  split
  · rw [dl_mir, dl_zero]
  · rw [dl_zero]
theorem alike_same {c d : List Int} (h : nf c = nf d) : dl c = dl d := by rw [← dl_nf c, h, dl_nf]
end Go.Proofs.Ytlbhedhbakhhlaa.Q

/- The mirror image: right cliffs again, alike, with the same delays; by the code and by the document. -/
namespace Go.Proofs.Ytlbhedhbakhhlaa.Q
open Go.RowKit Go.Proofs.YtlbhedhbakhhlaaW.PrintWords Go.Proofs.YtlbhedhbakhhlaaW.PrintLast Go.Proofs.YtlbhedhbakhhlaaW.PrintMore

theorem V.le {c : List Int} (h : V c) {i j : Nat} (hij : i ≤ j) (hj : j < c.length) : at_ c i ≤ at_ c j := by
  by_cases e : i = j
  · subst e; omega
  · have := h.lt (i := i) (j := j) (by omega) hj
    omega
theorem V.of_lt {c : List Int} (h0 : 0 < c.length) (h6 : c.length ≤ 6) (hr : ∀ i, i < c.length → -60 ≤ at_ c i ∧ at_ c i ≤ 60) (hs : ∀ i, i + 1 < c.length → at_ c i < at_ c (i + 1)) (hp : at_ c (c.length - 1) - at_ c 0 ≤ 60) : V c := by
  refine ⟨h0, h6, fun i hi hb => ?_, hp⟩
  have h1 := hr i hi
  unfold badAt at hb
  by_cases e : 0 < i
  · have := hs (i - 1) (by omega)
    rw [show i - 1 + 1 = i by omega] at this
    omega
  · omega
theorem V.mir {c : List Int} (h : V c) : V (mir c) := by
  have h0 := h.pos
  have h6 := h.six
  refine V.of_lt (by rw [mir_len]; exact h0) (by rw [mir_len]; exact h6) (fun i hi => ?_) (fun i hi => ?_) ?_
  · rw [mir_len] at hi
    rw [mir_at hi]
    have a := h.le (i := 0) (j := c.length - 1 - i) (by omega) (by omega)
    have b := h.le (i := c.length - 1 - i) (j := c.length - 1) (by omega) (by omega)
    have d := h.range h0
    have e := h.range (i := c.length - 1) (by omega)
    omega
  · rw [mir_len] at hi
    rw [mir_at (by omega), mir_at hi]
    have := h.lt (i := c.length - 1 - (i + 1)) (j := c.length - 1 - i) (by omega) (by omega)
    omega
  · rw [mir_len, mir_at (by omega), mir_at h0, show c.length - 1 - 0 = c.length - 1 by omega, show c.length - 1 - (c.length - 1) = 0 by omega]
    have := h.span
    omega
theorem Mirror_ev (c : List Int) : Ev (fun k => echo_Mirror.f k c) (if vErr c = 0 then mir c else [], vErr c) := by
  unfold echo_Mirror.f
  refine Ev.bind (validate_ev c) ?_
  by_cases h : vErr c = 0
  · simp only [if_pos h]
    rw [h, mirror_f (vErr_zero h).small (vErr_zero h).pos]
    exact Ev.pure _
  · simp only [if_neg h]
    exact Ev.pure _
theorem RMirror_ev (c : List Int) : Ev (fun k => diaphoneref05_Mirror.f k c) (if vErr c = 0 then mir c else [], vErr c) := by
  unfold diaphoneref05_Mirror.f
  refine Ev.bind (rvalidate_ev c) ?_
  by_cases h : vErr c = 0
  · simp only [if_pos h]
    rw [h]
    exact Ev.bind (rmirror_ev (vErr_zero h).small (vErr_zero h).pos) (Ev.pure _)
  · simp only [if_neg h]
    exact Ev.pure _
theorem mir_zero {c : List Int} (h0 : 0 < c.length) : zero (mir c) = mir (zero c) := by
  refine ext_at (by rw [zero_len, mir_len, mir_len, zero_len]) fun i hi => ?_
  rw [zero_len, mir_len] at hi
  rw [zero_at (by rw [mir_len]; exact hi), mir_at hi, mir_at h0, mir_at (by rw [zero_len]; exact hi), zero_len, zero_at h0, zero_at (by omega), zero_at (by omega), show c.length - 1 - 0 = c.length - 1 by omega]
  omega
theorem nf_mir {c : List Int} (h0 : 0 < c.length) : nf (mir c) = nf c := by
  have hz : 0 < (zero c).length := by rw [zero_len]; exact h0
  unfold nf
  rw [mir_zero h0, mir_mir hz]
  have ha := lexI_anti (mir (zero c)) (zero c)
  by_cases h1 : lexI (zero c) (mir (zero c)) < 0
  · rw [if_pos h1, if_neg (by omega)]
  · rw [if_neg h1]
    by_cases h2 : lexI (mir (zero c)) (zero c) < 0
    · rw [if_pos h2]
    · rw [if_neg h2]
      exact lexI_zero _ _ (by omega)
end Go.Proofs.Ytlbhedhbakhhlaa.Q

/- Twice the distances from a ship, by the code and by the document. -/
namespace Go.Proofs.Ytlbhedhbakhhlaa.Q
open Go.RowKit Go.Proofs.YtlbhedhbakhhlaaW.PrintWords Go.Proofs.YtlbhedhbakhhlaaW.PrintLast Go.Proofs.YtlbhedhbakhhlaaW.PrintMore

def far2 (s x : Int) : Int := 2 * mx (x - s) (s - x)
theorem far2_wrap {s x : Int} (hs : -1000 ≤ s ∧ s ≤ 1000) (hx : -1000000 ≤ x ∧ x ≤ 1000000) : wrap64 (2 * mx (wrap64 (x - s)) (wrap64 (s - x))) = far2 s x := by
  rw [wrap_of (show -9223372036854775808 ≤ x - s by omega) (by omega), wrap_of (show -9223372036854775808 ≤ s - x by omega) (by omega)]
  unfold far2 mx
  split <;> exact wrap_of (by omega) (by omega)
/-- What is heard at s. -/
def hd (c : List Int) (s : Int) : List Int := isortI (c.map (far2 s))
def hErr (c : List Int) (s : Int) : Int := if vErr c = 0 then (if -1000 ≤ s ∧ s ≤ 1000 then 0 else 1) else vErr c
theorem hd_len (c : List Int) (s : Int) : (hd c s).length = c.length := by
  unfold hd
  rw [(isortI_perm _).length_eq, List.length_map]
theorem map_take_succ (c : List Int) (f : Int → Int) (i : Nat) (h : i < c.length) : (c.take i).map f ++ [f (at_ c i)] = (c.take (i + 1)).map f := by
  rw [List.take_succ_eq_append_getElem h, List.map_append, at_lt c i h]
  rfl
theorem heard_l0 {c : List Int} {s : Int} (h : V c) (hs : -1000 ≤ s ∧ s ≤ 1000) : ∀ m i, c.length - i = m → i ≤ c.length → Ev (fun k => echo_Heard.l0 k s ((c.take i).map (far2 s)) c (c.length : Int) (i : Int)) (hd c s, 0) := by
  have h6 := h.six
  intro m
  induction m with
  | zero =>
    intro i hm hi
    rw [List.take_of_length_le (by omega)]
    refine Ev.step (Ev.pure _) fun k => ?_
    rw [echo_Heard.l0, if_neg (by omega), sort_ev _ (by simp; omega)]
    rfl
  | succ m ih =>
    intro i hm hi
    have hlt : i < c.length := by omega
    have hr := h.range hlt
    refine Ev.step (ih (i + 1) (by omega) (by omega)) fun k => ?_
    rw [echo_Heard.l0, if_pos (by omega), if_pos (by omega), if_pos (by omega), if_pos (by simp; omega), rd_at, far2_wrap hs (by omega), wrap_succ (by omega), map_take_succ c _ i hlt]
theorem Heard_ev (c : List Int) (s : Int) : Ev (fun k => echo_Heard.f k c s) (if hErr c s = 0 then hd c s else [], hErr c s) := by
  unfold echo_Heard.f hErr
  refine Ev.bind (validate_ev c) ?_
  by_cases h : vErr c = 0
  · simp only [if_pos h]
    rw [within_echo]
    refine Ev.some_bind ?_
    by_cases hs : -1000 ≤ s ∧ s ≤ 1000
    · simp only [decide_eq_true hs, if_true, if_pos hs]
      have := heard_l0 (vErr_zero h) hs c.length 0 (by omega) (by omega)
      simpa using this
    · simp only [decide_eq_false hs, Bool.false_eq_true, if_false, if_neg hs]
      exact Ev.pure _
  · simp only [if_neg h]
    exact Ev.pure _
theorem rheard_l0 {c : List Int} {s : Int} (h : V c) (hs : -1000 ≤ s ∧ s ≤ 1000) : ∀ m i, c.length - i = m → i ≤ c.length → Ev (fun k => diaphoneref05_Heard.l0 k c s ((c.take i).map (far2 s)) (i : Int)) (hd c s, 0) := by
  have h6 := h.six
  intro m
  induction m with
  | zero =>
    intro i hm hi
    rw [List.take_of_length_le (by omega)]
    refine Ev.step (g := fun k => (diaphoneref05_sorted.f k (c.map (far2 s))).bind fun t108 => (some (t108, 0))) (Ev.bind (sorted_ev (c.map (far2 s)) (by simp; omega)) (Ev.pure _)) fun k => ?_
    rw [diaphoneref05_Heard.l0, if_neg (by omega)]
  | succ m ih =>
    intro i hm hi
    have hlt : i < c.length := by omega
    have hr := h.range hlt
    refine Ev.step (ih (i + 1) (by omega) (by omega)) fun k => ?_
    rw [diaphoneref05_Heard.l0, if_pos (by omega), if_pos (by omega), if_pos (by simp; omega), rd_at, far2_wrap hs (by omega), wrap_succ (by omega), map_take_succ c _ i hlt]
theorem RHeard_ev (c : List Int) (s : Int) : Ev (fun k => diaphoneref05_Heard.f k c s) (if hErr c s = 0 then hd c s else [], hErr c s) := by
  unfold diaphoneref05_Heard.f hErr
  refine Ev.bind (rvalidate_ev c) ?_
  by_cases h : vErr c = 0
  · simp only [if_pos h]
    rw [within_ref]
    refine Ev.some_bind ?_
    by_cases hs : -1000 ≤ s ∧ s ≤ 1000
    · simp only [decide_eq_true hs, if_true, if_pos hs]
      have := rheard_l0 (vErr_zero h) hs c.length 0 (by omega) (by omega)
      simpa using this
    · simp only [decide_eq_false hs, Bool.false_eq_true, if_false, if_neg hs]
      exact Ev.pure _
  · simp only [if_neg h]
    exact Ev.pure _
theorem mx_comm (a b : Int) : mx a b = mx b a := by
  unfold mx
  split <;> split <;> omega
theorem hd_mir {c : List Int} (s : Int) : hd (mir c) (at_ c 0 + at_ c (c.length - 1) - s) = hd c s := by
  unfold hd
  apply isortI_congr
  unfold mir
  rw [List.map_map, List.map_reverse]
  refine (List.reverse_perm _).trans ?_
  have e : (far2 (at_ c 0 + at_ c (c.length - 1) - s) ∘ fun x => at_ c 0 + at_ c (c.length - 1) - x) = far2 s := by
    funext x
    simp only [Function.comp, far2]
    rw [mx_comm]
    congr 2 <;> omega
  rw [e]
end Go.Proofs.Ytlbhedhbakhhlaa.Q

/- Of equal neighbours one stays: what remains of a sorted list is each element once. -/
namespace Go.Proofs.Ytlbhedhbakhhlaa.Q
open Go.RowKit
section
variable {α : Type} [Inhabited α] [DecidableEq α]
theorem upto_mem (d : Array α) : ∀ m, m ≤ d.size → ∀ x, x ∈ Lib.compactUpTo d m ↔ ∃ j, j < m ∧ d[j]! = x
  | 0, _, x => by simp [Lib.compactUpTo]
  | m + 1, h, x => by
    rw [Lib.compactUpTo_succ, List.mem_append, upto_mem d m (by omega) x]
    constructor
    · rintro (⟨j, h1, h2⟩ | hx)
      · exact ⟨j, by omega, h2⟩
      · split at hx
        · exact ⟨m, by omega, (List.mem_singleton.1 hx).symm⟩
        · cases hx
    · rintro ⟨j, h1, h2⟩
      by_cases e : j = m
      · subst e
        by_cases hk : Lib.keeps d j = true
        · rw [if_pos hk]; exact .inr (List.mem_singleton.2 h2.symm)
        · unfold Lib.keeps at hk
          simp only [decide_eq_true_eq, not_or, ne_eq, Decidable.not_not] at hk
          exact .inl ⟨j - 1, by omega, by rw [← hk.2]; exact h2⟩
      · exact .inl ⟨j, by omega, h2⟩
theorem compact_mem (zs : List α) (x : α) : x ∈ Lib.compact zs ↔ x ∈ zs := by
  unfold Lib.compact
  rw [upto_mem _ _ (by simp)]
  constructor
  · rintro ⟨j, h1, rfl⟩
    rw [getElem!_pos _ _ (by simpa using h1)]
    simp
  · intro h
    obtain ⟨j, hj, rfl⟩ := List.mem_iff_getElem.1 h
    exact ⟨j, hj, by rw [getElem!_pos _ _ (by simpa using hj)]; simp⟩
theorem upto_nodup {le : α → α → Prop} (hanti : ∀ a b, le a b → le b a → a = b) (zs : List α) (hs : zs.Pairwise le) : ∀ m, m ≤ zs.length → (Lib.compactUpTo zs.toArray m).Nodup
  | 0, _ => by simp [Lib.compactUpTo]
  | m + 1, h => by
    rw [Lib.compactUpTo_succ, List.nodup_append]
    refine ⟨upto_nodup hanti zs hs m (by omega), by split <;> simp, ?_⟩
    intro a ha b hb he
    subst he
    obtain ⟨j, hj, hja⟩ := (upto_mem _ _ (by simp; omega) a).1 ha
    split at hb
    · rename_i hk
      have hb' := List.mem_singleton.1 hb
      have hg : ∀ i (hi : i < zs.length), zs.toArray[i]! = zs[i] := fun i hi => by rw [getElem!_pos _ _ (by simpa using hi)]; simp
      have hp := List.pairwise_iff_getElem.1 hs
      unfold Lib.keeps at hk
      simp only [decide_eq_true_eq] at hk
      rcases hk with hk | hk
      · omega
      · apply hk
        rw [hg j (by omega)] at hja
        rw [hg m (by omega)] at hb' hk ⊢
        rw [hg (m - 1) (by omega)] at hk ⊢
        by_cases e : j = m - 1
        · subst e; rw [hja, ← hb']
        · have h1 := hp j (m - 1) (by omega) (by omega) (by omega)
          have h2 := hp (m - 1) m (by omega) (by omega) (by omega)
          rw [hja, hb'] at h1
          exact hanti _ _ h1 h2
    · cases hb
theorem compact_nodup {le : α → α → Prop} (hanti : ∀ a b, le a b → le b a → a = b) (zs : List α) (hs : zs.Pairwise le) : (Lib.compact zs).Nodup := upto_nodup hanti zs hs zs.length (Nat.le_refl _)
theorem upto_sub (zs : List α) : ∀ m, m ≤ zs.length → (Lib.compactUpTo zs.toArray m).Sublist (zs.take m)
  | 0, _ => by simp [Lib.compactUpTo]
  | m + 1, h => by
    rw [Lib.compactUpTo_succ, List.take_succ_eq_append_getElem (by omega)]
    refine List.Sublist.append (upto_sub zs m (by omega)) ?_
    split
    · rw [getElem!_pos _ _ (by simp; omega)]
      simp
    · exact List.nil_sublist _
theorem compact_sub (zs : List α) : (Lib.compact zs).Sublist zs := by
  have := upto_sub zs zs.length (Nat.le_refl _)
  rw [List.take_length] at this
  exact this
end
end Go.Proofs.Ytlbhedhbakhhlaa.Q

/- The chapter's examples hold. -/
namespace Go.Proofs.Ytlbhedhbakhhlaa.Q
open Go.RowKit Go.Proofs.YtlbhedhbakhhlaaW.PrintWords Go.Proofs.YtlbhedhbakhhlaaW.PrintLast Go.Proofs.YtlbhedhbakhhlaaW.PrintMore

theorem Ev.mono {α : Type} {f : Nat → Option α} {r : α} (hm : ∀ k, LeO (f k) (f (k + 1))) (K : Nat) (h : f K = some r) : Ev f r := by
  refine ⟨K, fun k hk => ?_⟩
  induction k with
  | zero => obtain rfl : K = 0 := by omega
            exact h
  | succ k ih =>
    by_cases e : K = k + 1
    · rw [← e]; exact h
    · exact hm k r (ih (by omega))
set_option maxRecDepth 100000 in
theorem sane_60 : diaphonelaw05_sane.f 60 = some true := by kernel_rfl
theorem sane_ev : Ev (fun k => diaphonelaw05_sane.f k) true := Ev.mono diaphonelaw05_sane.mono 60 sane_60
theorem sane_end : Ev (fun k => (diaphonelaw05_sane.f k).bind fun t => some t) true := Ev.bind sane_ev (Ev.pure _)
end Go.Proofs.Ytlbhedhbakhhlaa.Q

/- The errors of claimed delays and of CheckCliffs, by the code and by the document. -/
namespace Go.Proofs.Ytlbhedhbakhhlaa.Q
open Go.RowKit Go.Proofs.YtlbhedhbakhhlaaW.PrintWords Go.Proofs.YtlbhedhbakhhlaaW.PrintLast Go.Proofs.YtlbhedhbakhhlaaW.PrintMore

/-! ### slices.Index, slices.Contains -/
def fidx (v : Int) : List Int → Nat → Int
  | [], _ => -1
  | x :: t, n => if v = x then (n : Int) else fidx v t (n + 1)
theorem fidx_spec (v : Int) : ∀ (l : List Int) (n : Nat), (fidx v l n = -1 ∧ v ∉ l) ∨ ∃ j, j < l.length ∧ fidx v l n = ((n + j : Nat) : Int) ∧ v ∈ l ∧ l.eraseIdx j = l.erase v
  | [], n => .inl ⟨rfl, by simp⟩
  | x :: t, n => by
    unfold fidx
    by_cases h : v = x
    · subst h
      exact .inr ⟨0, by simp, by simp, by simp, by simp⟩
    · rw [if_neg h]
      rcases fidx_spec v t (n + 1) with ⟨h1, h2⟩ | ⟨j, h1, h2, h3, h4⟩
      · exact .inl ⟨h1, by simp [h, h2]⟩
      · refine .inr ⟨j + 1, by simp; omega, by rw [h2]; congr 1; omega, by simp [h3], ?_⟩
        rw [List.eraseIdx_cons_succ, h4, List.erase_cons_tail (by simpa using Ne.symm h)]
theorem index_l0 (l : List Int) (v : Int) (hl : l.length ≤ 1000000) : ∀ m i, l.length - i = m → i ≤ l.length → Ev (fun k => slices_Index_int_int.l0 k l v (l.length : Int) (i : Int)) (fidx v (l.drop i) i) := by
  intro m
  induction m with
  | zero =>
    intro i hm hi
    rw [List.drop_of_length_le (by omega)]
    refine Ev.step (Ev.pure _) fun k => ?_
    rw [slices_Index_int_int.l0, if_neg (by omega)]
    rfl
  | succ m ih =>
    intro i hm hi
    have hlt : i < l.length := by omega
    rw [List.drop_eq_getElem_cons hlt, fidx]
    by_cases h : v = l[i]
    · rw [if_pos h]
      refine Ev.step (Ev.pure _) fun k => ?_
      rw [slices_Index_int_int.l0, if_pos (by omega), if_pos (by omega), if_pos (by omega), rd_lt l i hlt, if_pos h]
    · rw [if_neg h]
      refine Ev.step (ih (i + 1) (by omega) (by omega)) fun k => ?_
      rw [slices_Index_int_int.l0, if_pos (by omega), if_pos (by omega), if_pos (by omega), rd_lt l i hlt, if_neg h, wrap_succ (by omega)]
theorem index_ev (l : List Int) (v : Int) (hl : l.length ≤ 1000000) : Ev (fun k => slices_Index_int_int.f k l v) (fidx v l 0) := by
  unfold slices_Index_int_int.f
  have := index_l0 l v hl l.length 0 (by omega) (by omega)
  simpa using this
theorem contains_ev (l : List Int) (v : Int) (hl : l.length ≤ 1000000) : Ev (fun k => slices_Contains_int_int.f k l v) (decide (v ∈ l)) := by
  unfold slices_Contains_int_int.f
  refine Ev.bind (index_ev l v hl) ?_
  have e : decide (fidx v l 0 ≥ 0) = decide (v ∈ l) := by
    rcases fidx_spec v l 0 with ⟨h1, h2⟩ | ⟨j, h1, h2, h3, h4⟩
    · rw [h1]; simp [h2]
    · rw [h2]; simp [h3]
  rw [e]
  exact Ev.pure _

/-! ### slices.IsSorted, slices.ContainsFunc -/
def Srt (l : List Int) : Prop := ∀ i, i < l.length → 0 < i → at_ l (i - 1) ≤ at_ l i
instance (l : List Int) : Decidable (Srt l) := inferInstanceAs (Decidable (∀ i, i < l.length → 0 < i → at_ l (i - 1) ≤ at_ l i))
theorem less_int (a b : Int) : cmp_Less_int.f a b = some (decide (a < b)) := by
  simp only [cmp_Less_int.f, cmp_isNaN_int.f, Option.bind_some, bne_self_eq_false, Bool.false_eq_true, if_false]
theorem isSorted_l0 (l : List Int) (hl : l.length ≤ 1000000) : ∀ n, n < l.length ∨ n = 0 → (∀ i, n < i → i < l.length → at_ l (i - 1) ≤ at_ l i) → Ev (fun k => slices_IsSorted_int_int.l0 k l (n : Int)) (decide (Srt l)) := by
  intro n
  induction n with
  | zero =>
    intro _ hs
    have e : decide (Srt l) = true := decide_eq_true (fun i h1 h2 => hs i h2 h1)
    rw [e]
    refine Ev.step (Ev.pure _) fun k => ?_
    rw [slices_IsSorted_int_int.l0, if_neg (by omega)]
  | succ n ih =>
    intro hn hs
    have hn' : n + 1 < l.length := by omega
    by_cases h : at_ l (n + 1) < at_ l n
    · have e : decide (Srt l) = false := decide_eq_false (fun hh => by
        have := hh (n + 1) hn' (by omega)
        rw [Nat.add_sub_cancel] at this
        omega)
      rw [e]
      refine Ev.step (Ev.pure _) fun k => ?_
      rw [slices_IsSorted_int_int.l0, if_pos (by omega), if_pos (by omega), if_pos (by omega), wrap_pred (by omega) (by omega), if_pos (by omega), if_pos (by omega), less_int, Option.bind_some, rd_at, rd_at, if_pos (by simpa using h)]
    · refine Ev.step (ih (by omega) (fun i h1 h2 => ?_)) fun k => ?_
      · by_cases e : i = n + 1
        · subst e; rw [Nat.add_sub_cancel]; omega
        · exact hs i (by omega) h2
      · rw [slices_IsSorted_int_int.l0, if_pos (by omega), if_pos (by omega), if_pos (by omega), wrap_pred (by omega) (by omega), if_pos (by omega), if_pos (by omega), less_int, Option.bind_some, rd_at, rd_at, if_neg (by simpa using h), Nat.add_sub_cancel]
theorem isSorted_ev (l : List Int) (hl : l.length ≤ 1000000) : Ev (fun k => slices_IsSorted_int_int.f k l) (decide (Srt l)) := by
  unfold slices_IsSorted_int_int.f
  by_cases h : l.length = 0
  · have e : decide (Srt l) = true := decide_eq_true (fun i h1 _ => by omega)
    rw [h, e]
    refine Ev.step (Ev.pure _) fun k => ?_
    rw [slices_IsSorted_int_int.l0, if_neg (by rw [wrap_of (by omega) (by omega)]; omega)]
  · rw [wrap_pred (by omega) (by omega)]
    exact isSorted_l0 l hl (l.length - 1) (by omega) (fun i h1 h2 => by omega)
def In60 (l : List Int) : Prop := ∀ i, i < l.length → 1 ≤ at_ l i ∧ at_ l i ≤ 60
instance (l : List Int) : Decidable (In60 l) := inferInstanceAs (Decidable (∀ i, i < l.length → 1 ≤ at_ l i ∧ at_ l i ≤ 60))
theorem claimed1 (x : Int) : echo_claimed_1.f x = some (!decide (1 ≤ x ∧ x ≤ 60)) := by
  unfold echo_claimed_1.f
  rw [within_echo]
  rfl
theorem indexFunc_l0 (l : List Int) (hl : l.length ≤ 1000000) : ∀ m i, l.length - i = m → i ≤ l.length → (∀ j, j < i → 1 ≤ at_ l j ∧ at_ l j ≤ 60) →
    ∃ r, Ev (fun k => slices_IndexFunc_int_int.l0 k l (l.length : Int) (i : Int)) r ∧ (0 ≤ r ↔ ¬ In60 l) := by
  intro m
  induction m with
  | zero =>
    intro i hm hi hj
    refine ⟨-1, Ev.step (Ev.pure _) fun k => ?_, by simp; exact fun j h => hj j (by omega)⟩
    rw [slices_IndexFunc_int_int.l0, if_neg (by omega)]
  | succ m ih =>
    intro i hm hi hj
    have hlt : i < l.length := by omega
    by_cases h : 1 ≤ at_ l i ∧ at_ l i ≤ 60
    · obtain ⟨r, h1, h2⟩ := ih (i + 1) (by omega) (by omega) (fun j h' => by
        by_cases e : j = i
        · subst e; exact h
        · exact hj j (by omega))
      refine ⟨r, Ev.step h1 fun k => ?_, h2⟩
      rw [slices_IndexFunc_int_int.l0, if_pos (by omega), if_pos (by omega), if_pos (by omega), claimed1, Option.bind_some, rd_at, if_neg (by simp; omega), wrap_succ (by omega)]
    · refine ⟨i, Ev.step (Ev.pure _) fun k => ?_, ?_⟩
      · rw [slices_IndexFunc_int_int.l0, if_pos (by omega), if_pos (by omega), if_pos (by omega), claimed1, Option.bind_some, rd_at, if_pos (by simp; omega)]
      · exact ⟨fun _ hh => h (hh i hlt), fun _ => by omega⟩
theorem containsFunc_ev (l : List Int) (hl : l.length ≤ 1000000) : Ev (fun k => slices_ContainsFunc_int_int.f k l 0) (decide (¬ In60 l)) := by
  unfold slices_ContainsFunc_int_int.f slices_IndexFunc_int_int.f
  obtain ⟨r, h1, h2⟩ := indexFunc_l0 l hl l.length 0 (by omega) (by omega) (fun j h => by omega)
  refine Ev.bind h1 ?_
  have e : decide (r ≥ 0) = decide (¬ In60 l) := by
    rw [decide_eq_decide]
    exact h2
  rw [e]
  exact Ev.pure _

/-! ### The errors of claimed delays -/
def pairsOk (n : Nat) : Prop := n = 0 ∨ n = 1 ∨ n = 3 ∨ n = 6 ∨ n = 10 ∨ n = 15
instance (n : Nat) : Decidable (pairsOk n) := inferInstanceAs (Decidable (_ ∨ _))
/-- Right claimed delays. -/
structure C (l : List Int) : Prop where
  n : pairsOk l.length
  srt : Srt l
  r : In60 l
instance (l : List Int) : Decidable (C l) := decidable_of_iff (pairsOk l.length ∧ Srt l ∧ In60 l) ⟨fun h => ⟨h.1, h.2.1, h.2.2⟩, fun h => ⟨h.n, h.srt, h.r⟩⟩
def cErr (l : List Int) : Int := if 15 < l.length then 3 else if C l then 0 else 1
theorem cErr_zero {l : List Int} (h : cErr l = 0) : C l := by
  unfold cErr at h
  split at h
  · cases h
  · split at h
    · assumption
    · cases h
theorem C.len {l : List Int} (h : C l) : l.length ≤ 15 := by
  have := h.n
  unfold pairsOk at this
  omega
theorem cErr_of {l : List Int} (h : C l) : cErr l = 0 := by
  unfold cErr
  rw [if_neg (by have := h.len; omega), if_pos h]
theorem claimed_ev (l : List Int) : Ev (fun k => echo_claimed.f k l) (cErr l) := by
  unfold echo_claimed.f
  by_cases h : 15 < l.length
  · have e : cErr l = 3 := by unfold cErr; rw [if_pos h]
    rw [e]
    simp only [if_pos (show (l.length : Int) > 15 by omega)]
    exact Ev.pure _
  · simp only [if_neg (show ¬ (l.length : Int) > 15 by omega)]
    refine Ev.bind (contains_ev _ _ (by simp)) ?_
    have e : decide ((l.length : Int) ∈ ([0, 1, 3, 6, 10, 15] : List Int)) = decide (pairsOk l.length) := by
      rw [decide_eq_decide]
      unfold pairsOk
      simp only [List.mem_cons, List.not_mem_nil, or_false]
      omega
    rw [e]
    by_cases h1 : pairsOk l.length
    · simp only [decide_eq_true h1, if_true]
      refine Ev.bind (isSorted_ev l (by omega)) ?_
      by_cases h2 : Srt l
      · simp only [decide_eq_true h2, if_true]
        refine Ev.bind (containsFunc_ev l (by omega)) ?_
        by_cases h3 : In60 l
        · rw [cErr_of ⟨h1, h2, h3⟩]
          simp only [decide_eq_false (show ¬ ¬ In60 l from fun hh => hh h3), Bool.false_eq_true, if_false]
          exact Ev.pure _
        · have e : cErr l = 1 := by unfold cErr; rw [if_neg h, if_neg (fun hc => h3 hc.r)]
          rw [e]
          simp only [decide_eq_true h3, if_true]
          exact Ev.pure _
      · have e : cErr l = 1 := by unfold cErr; rw [if_neg h, if_neg (fun hc => h2 hc.srt)]
        rw [e]
        simp only [decide_eq_false h2, Bool.false_eq_true, if_false]
        exact Ev.pure _
    · have e : cErr l = 1 := by unfold cErr; rw [if_neg h, if_neg (fun hc => h1 hc.n)]
      rw [e]
      simp only [decide_eq_false h1, Bool.false_eq_true, if_false]
      exact Ev.pure _

/-- How many cliffs have so many pairs; 0 for none. -/
def clf (p : Nat) : Int := if p = 0 then 1 else if p = 1 then 2 else if p = 3 then 3 else if p = 6 then 4 else if p = 10 then 5 else if p = 15 then 6 else 0
theorem cliffs_all : ∀ p : Fin 16, diaphoneref05_cliffs.f 10 (p.val : Int) = some (clf p.val) := by decide +kernel
theorem cliffs_ev (p : Nat) (h : p ≤ 15) : Ev (fun k => diaphoneref05_cliffs.f k (p : Int)) (clf p) :=
  Ev.mono (diaphoneref05_cliffs.mono (p : Int)) 10 (cliffs_all ⟨p, by omega⟩)
theorem clf_zero (p : Nat) : clf p = 0 ↔ ¬ pairsOk p := by
  unfold clf pairsOk
  split <;> (try split) <;> (try split) <;> (try split) <;> (try split) <;> (try split) <;> simp_all
theorem isDelays_l0 (l : List Int) (hl : l.length ≤ 15) : ∀ m i, l.length - i = m → i ≤ l.length → (∀ j, j < i → (1 ≤ at_ l j ∧ at_ l j ≤ 60) ∧ (0 < j → at_ l (j - 1) ≤ at_ l j)) → Ev (fun k => diaphoneref05_isDelays.l0 k l (i : Int)) (cErr l) := by
  intro m
  induction m with
  | zero =>
    intro i hm hi hj
    refine Ev.step (g := fun k => (diaphoneref05_cliffs.f k (l.length : Int)).bind fun t105 => (if t105 = 0 then (some 1) else (some 0))) ?_ fun k => ?_
    · refine Ev.bind (cliffs_ev l.length hl) ?_
      by_cases h : pairsOk l.length
      · rw [cErr_of ⟨h, fun i h1 h2 => (hj i (by omega)).2 h2, fun i h1 => (hj i (by omega)).1⟩]
        simp only [if_neg (show ¬ clf l.length = 0 from fun e => (clf_zero _).1 e h)]
        exact Ev.pure _
      · have e : cErr l = 1 := by unfold cErr; rw [if_neg (by omega), if_neg (fun hc => h hc.n)]
        rw [e]
        simp only [if_pos ((clf_zero _).2 h)]
        exact Ev.pure _
    · rw [diaphoneref05_isDelays.l0, if_neg (by omega)]
  | succ m ih =>
    intro i hm hi hj
    have hlt : i < l.length := by omega
    by_cases h : 1 ≤ at_ l i ∧ at_ l i ≤ 60
    · by_cases h2 : 0 < i ∧ at_ l i < at_ l (i - 1)
      · have e : cErr l = 1 := by unfold cErr; rw [if_neg (by omega), if_neg (fun hc => by have := hc.srt i hlt h2.1; omega)]
        rw [e]
        refine Ev.step (Ev.pure _) fun k => ?_
        rw [diaphoneref05_isDelays.l0, if_pos (by omega), if_pos (by omega), within_ref, Option.bind_some, rd_at, if_pos (by simpa using h), if_pos (by omega), wrap_pred (by omega) h2.1, if_pos (by omega), if_pos (by omega), rd_at, if_pos (by omega)]
      · refine Ev.step (ih (i + 1) (by omega) (by omega) (fun j h' => ?_)) fun k => ?_
        · by_cases e : j = i
          · subst e; exact ⟨h, fun h0 => by omega⟩
          · exact hj j (by omega)
        · rw [diaphoneref05_isDelays.l0, if_pos (by omega), if_pos (by omega), within_ref, Option.bind_some, rd_at, if_pos (by simpa using h), wrap_succ (by omega)]
          by_cases h0 : 0 < i
          · rw [if_pos (by omega), wrap_pred (by omega) h0, if_pos (by omega), if_pos (by omega), rd_at, if_neg (by omega)]
          · rw [if_neg (by omega)]
    · have e : cErr l = 1 := by unfold cErr; rw [if_neg (by omega), if_neg (fun hc => h (hc.r i hlt))]
      rw [e]
      refine Ev.step (Ev.pure _) fun k => ?_
      rw [diaphoneref05_isDelays.l0, if_pos (by omega), if_pos (by omega), within_ref, Option.bind_some, rd_at, if_neg (by simpa using h)]
theorem isDelays_ev (l : List Int) : Ev (fun k => diaphoneref05_isDelays.f k l) (cErr l) := by
  unfold diaphoneref05_isDelays.f
  by_cases h : 15 < l.length
  · have e : cErr l = 3 := by unfold cErr; rw [if_pos h]
    rw [e]
    simp only [if_pos (show (l.length : Int) > 15 by omega)]
    exact Ev.pure _
  · simp only [if_neg (show ¬ (l.length : Int) > 15 by omega)]
    exact isDelays_l0 l (by omega) l.length 0 (by omega) (by omega) (fun j h => by omega)

/-! ### CheckCliffs -/
def ccErr (l c : List Int) : Int := if cErr l = 0 then (if vErr c = 0 then (if dl c = l then 0 else 7) else vErr c) else cErr l
theorem CheckCliffs_ev (l c : List Int) : Ev (fun k => echo_CheckCliffs.f k l c) (ccErr l c) := by
  unfold echo_CheckCliffs.f ccErr
  refine Ev.bind (claimed_ev l) ?_
  by_cases h : cErr l = 0
  · simp only [if_pos h]
    refine Ev.bind (validate_ev c) ?_
    by_cases h2 : vErr c = 0
    · simp only [if_pos h2]
      have hs := (vErr_zero h2).small
      refine Ev.bind (delays_ev hs) ?_
      refine Ev.bind (Ev.of ((dl c).length + 1) (fun k hk => equal_ev (dl c) l (by have := dl_len hs; omega) k (by omega))) ?_
      by_cases h3 : dl c = l
      · simp only [decide_eq_true h3, if_true, if_pos h3]; exact Ev.pure _
      · simp only [decide_eq_false h3, Bool.false_eq_true, if_false, if_neg h3]; exact Ev.pure _
    · simp only [if_neg h2]; exact Ev.pure _
  · simp only [if_neg h]; exact Ev.pure _
theorem RCheckCliffs_ev (l c : List Int) : Ev (fun k => diaphoneref05_CheckCliffs.f k l c) (ccErr l c) := by
  unfold diaphoneref05_CheckCliffs.f ccErr
  refine Ev.bind (isDelays_ev l) ?_
  by_cases h : cErr l = 0
  · simp only [if_pos h]
    refine Ev.bind (rvalidate_ev c) ?_
    by_cases h2 : vErr c = 0
    · simp only [if_pos h2]
      have hs := (vErr_zero h2).small
      refine Ev.bind (rdelays_ev hs) ?_
      refine Ev.bind (same_ev (dl c) l (by have := dl_len hs; omega)) ?_
      by_cases h3 : dl c = l
      · simp only [decide_eq_true h3, if_true, if_pos h3]; exact Ev.pure _
      · simp only [decide_eq_false h3, Bool.false_eq_true, if_false, if_neg h3]; exact Ev.pure _
    · simp only [if_neg h2]; exact Ev.pure _
  · simp only [if_neg h]; exact Ev.pure _
end Go.Proofs.Ytlbhedhbakhhlaa.Q

/- Cliffs with one more place, by the code and by the document, and what their delays are. -/
namespace Go.Proofs.Ytlbhedhbakhhlaa.Q
open Go.RowKit Go.Proofs.YtlbhedhbakhhlaaW.PrintWords Go.Proofs.YtlbhedhbakhhlaaW.PrintLast Go.Proofs.YtlbhedhbakhhlaaW.PrintMore

theorem half_of {i j : Nat} (h : i + j ≤ 1000000) : wrap64 ((IntKind.u64.wrap (wrap64 ((i : Int) + (j : Int)))) / 2) = (((i + j) / 2 : Nat) : Int) := by
  have e0 : wrap64 ((i : Int) + (j : Int)) = (i : Int) + (j : Int) := wrap_of (by omega) (by omega)
  have e1 : IntKind.u64.wrap ((i : Int) + (j : Int)) = (i : Int) + (j : Int) := by rw [IntKind.wrap_u64]; omega
  rw [e0, e1, wrap_of (by omega) (by omega)]
  omega
/-- Where a place is, or would be. -/
theorem search_l0 {c : List Int} (v : Int) (hs : ∀ i j, i < j → j < c.length → at_ c i < at_ c j) (hl : c.length ≤ 1000) : ∀ m i j, j - i = m → i ≤ j → j ≤ c.length → (∀ a, a < i → at_ c a < v) → (∀ a, j ≤ a → a < c.length → v ≤ at_ c a) →
    ∃ p, p ≤ c.length ∧ (∀ a, a < p → at_ c a < v) ∧ (∀ a, p ≤ a → a < c.length → v ≤ at_ c a) ∧ Ev (fun k => slices_BinarySearch_int_int.l0 k c v (c.length : Int) (i : Int) (j : Int)) ((p : Int), decide (v ∈ c)) := by
  intro m
  induction m using Nat.strongRecOn with
  | _ m ih =>
    intro i j hm hij hj hlo hhi
    by_cases h : i < j
    · have hh : (i + j) / 2 < j := by omega
      by_cases hv : at_ c ((i + j) / 2) < v
      · obtain ⟨p, h1, h2, h3, h4⟩ := ih (j - ((i + j) / 2 + 1)) (by omega) ((i + j) / 2 + 1) j rfl (by omega) hj (fun a ha => by
          by_cases e : a = (i + j) / 2
          · subst e; exact hv
          · have := hs a ((i + j) / 2) (by omega) (by omega); omega) hhi
        refine ⟨p, h1, h2, h3, Ev.step h4 fun k => ?_⟩
        rw [slices_BinarySearch_int_int.l0, if_pos (by omega), half_of (by omega), if_pos (by omega), if_pos (by omega), rd_at, less_int, Option.bind_some, if_pos (by simpa using hv), wrap_succ (by omega)]
      · obtain ⟨p, h1, h2, h3, h4⟩ := ih ((i + j) / 2 - i) (by omega) i ((i + j) / 2) rfl (by omega) (by omega) hlo (fun a h1 h2 => by
          by_cases e : a = (i + j) / 2
          · subst e; omega
          · have := hs ((i + j) / 2) a (by omega) h2; omega)
        refine ⟨p, h1, h2, h3, Ev.step h4 fun k => ?_⟩
        rw [slices_BinarySearch_int_int.l0, if_pos (by omega), half_of (by omega), if_pos (by omega), if_pos (by omega), rd_at, less_int, Option.bind_some, if_neg (by simpa using hv)]
    · have : i = j := by omega
      subst this
      have hmem : v ∈ c ↔ i < c.length ∧ at_ c i = v := by
        constructor
        · intro hx
          obtain ⟨a, ha, e⟩ := List.mem_iff_getElem.1 hx
          rw [← at_lt] at e
          have h1 : ¬ a < i := fun h' => by have := hlo a h'; omega
          by_cases e2 : a = i
          · subst e2; exact ⟨ha, e⟩
          · have h2 := hhi i (by omega) (by omega)
            have h3 := hs i a (by omega) ha
            omega
        · rintro ⟨h1, h2⟩
          rw [← h2, at_lt c i h1]
          exact List.getElem_mem h1
      refine ⟨i, hj, hlo, hhi, ?_⟩
      by_cases hi : i < c.length
      · by_cases he : at_ c i = v
        · rw [decide_eq_true (hmem.2 ⟨hi, he⟩)]
          refine Ev.step (Ev.pure _) fun k => ?_
          rw [slices_BinarySearch_int_int.l0, if_neg (by omega), if_pos (by omega), if_pos (by omega), if_pos (by omega), rd_at, if_pos he]
        · rw [decide_eq_false (fun hx => he (hmem.1 hx).2)]
          refine Ev.step (Ev.pure _) fun k => ?_
          rw [slices_BinarySearch_int_int.l0, if_neg (by omega), if_pos (by omega), if_pos (by omega), if_pos (by omega), rd_at, if_neg he]
          simp [slices_isNaN_int.f]
      · rw [decide_eq_false (fun hx => hi (hmem.1 hx).1)]
        refine Ev.step (Ev.pure _) fun k => ?_
        rw [slices_BinarySearch_int_int.l0, if_neg (by omega), if_neg (by omega)]
theorem search_ev {c : List Int} (v : Int) (hs : ∀ i j, i < j → j < c.length → at_ c i < at_ c j) (hl : c.length ≤ 1000) :
    ∃ p, p ≤ c.length ∧ (∀ a, a < p → at_ c a < v) ∧ (∀ a, p ≤ a → a < c.length → v ≤ at_ c a) ∧ Ev (fun k => slices_BinarySearch_int_int.f k c v) ((p : Int), decide (v ∈ c)) := by
  unfold slices_BinarySearch_int_int.f
  exact search_l0 v hs hl c.length 0 c.length rfl (by omega) (by omega) (fun a h => by omega) (fun a h1 h2 => by omega)

theorem V.pairwise {c : List Int} (h : V c) : c.Pairwise (fun a b => a < b) := by
  rw [List.pairwise_iff_getElem]
  intro i j hi hj hij
  rw [← at_lt, ← at_lt]
  exact h.lt hij hj
theorem insert_sorted {c : List Int} {v : Int} {p : Nat} (h : V c) (hp : p ≤ c.length) (hlo : ∀ a, a < p → at_ c a < v) (hhi : ∀ a, p ≤ a → a < c.length → v ≤ at_ c a) : c.take p ++ [v] ++ c.drop p = isortI (c ++ [v]) := by
  apply isortI_uniq
  · have h1 : (c.take p ++ [v] ++ c.drop p).Perm (c.take p ++ (c.drop p ++ [v])) := by
      rw [List.append_assoc]
      exact (List.perm_append_comm).append_left _
    refine h1.trans ?_
    rw [← List.append_assoc, List.take_append_drop]
  · have hw : c.Pairwise (fun a b => a ≤ b) := h.pairwise.imp (fun h => by omega)
    rw [List.append_assoc, List.pairwise_append]
    refine ⟨hw.sublist (List.take_sublist _ _), ?_, ?_⟩
    · rw [List.singleton_append, List.pairwise_cons]
      refine ⟨fun x hx => ?_, hw.sublist (List.drop_sublist _ _)⟩
      obtain ⟨j, hj, rfl⟩ := List.mem_iff_getElem.1 hx
      rw [List.length_drop] at hj
      rw [List.getElem_drop, ← at_lt]
      exact hhi _ (by omega) (by omega)
    · intro x hx y hy
      obtain ⟨j, hj, rfl⟩ := List.mem_iff_getElem.1 hx
      rw [List.length_take] at hj
      rw [List.getElem_take, ← at_lt]
      have h1 := hlo j (by omega)
      rcases List.mem_append.1 hy with hy | hy
      · rw [List.mem_singleton.1 hy]; omega
      · obtain ⟨i, hi, rfl⟩ := List.mem_iff_getElem.1 hy
        rw [List.length_drop] at hi
        rw [List.getElem_drop, ← at_lt]
        have := hhi (p + i) (by omega) (by omega)
        omega
/-- With one more place. -/
def wth (c : List Int) (v : Int) : List Int := isortI (c ++ [v])
def wR (c : List Int) (v : Int) : List Int × Int := if vErr c = 0 then (if v ∈ c then ([], 5) else if vErr (wth c v) = 0 then (wth c v, 0) else ([], vErr (wth c v))) else ([], vErr c)
theorem checked_ev (l : List Int) : Ev (fun k => echo_checked.f k l) (if vErr l = 0 then (l, 0) else ([], vErr l)) := by
  unfold echo_checked.f
  refine Ev.bind (validate_ev l) ?_
  by_cases h : vErr l = 0
  · simp only [if_pos h]; exact Ev.pure _
  · simp only [if_neg h]; exact Ev.pure _
theorem With_ev (c : List Int) (v : Int) : Ev (fun k => echo_With.f k c v) (wR c v) := by
  unfold echo_With.f wR
  refine Ev.bind (validate_ev c) ?_
  by_cases h : vErr c = 0
  · simp only [if_pos h]
    have hv := vErr_zero h
    have h6 := hv.six
    obtain ⟨p, h1, h2, h3, h4⟩ := search_ev v (fun i j hij hj => hv.lt hij hj) (by omega : c.length ≤ 1000)
    refine Ev.bind h4 ?_
    by_cases hm : v ∈ c
    · simp only [decide_eq_true hm, if_true, if_pos hm]; exact Ev.pure _
    · simp only [decide_eq_false hm, Bool.false_eq_true, if_false, if_neg hm]
      unfold slices_Clone_int_int.f
      rw [if_pos (by omega)]
      refine Ev.some_bind ?_
      have e : slices_Insert_int_int.f c (p : Int) [v] = some (wth c v) := by
        unfold slices_Insert_int_int.f
        rw [if_pos ⟨rfl, by omega, by omega, by omega⟩, Int.toNat_natCast, insert_sorted hv h1 h2 h3]
        rfl
      rw [e]
      refine Ev.some_bind ?_
      refine Ev.bind (checked_ev (wth c v)) ?_
      exact Ev.pure _
  · simp only [if_neg h]; exact Ev.pure _

/-! ### The document's 'made' -/
theorem nodup_kept {s : List Int} (hs : s.Pairwise (fun a b => a ≤ b)) : allKept s ↔ s.Nodup := by
  constructor
  · intro h
    have h1 := (compact_len s).2 h
    have h2 : Lib.compact s = s := (compact_sub s).eq_of_length h1
    rw [← h2]
    exact compact_nodup (le := fun a b => a ≤ b) (fun a b h1 h2 => by omega) s hs
  · intro h j hj
    rw [keeps_at s j hj, decide_eq_true_eq]
    by_cases e : j = 0
    · exact .inl e
    · refine .inr fun he => ?_
      rw [at_lt s j hj, at_lt s (j - 1) (by omega)] at he
      have := List.pairwise_iff_getElem.1 h (j - 1) j (by omega) hj (by omega)
      exact this he.symm
theorem made_l0 (s : List Int) (hs : s.length ≤ 1000000) : ∀ m i, s.length - i = m → 0 < i → (∀ j, j < i → j < s.length → Lib.keeps s.toArray j = true) →
    Ev (fun k => diaphoneref05_made.l0 k s (i : Int)) (if allKept s then (if vErr s = 0 then (s, 0) else ([], vErr s)) else ([], 5)) := by
  intro m
  induction m with
  | zero =>
    intro i hm hi hk
    have hall : allKept s := fun j hj => hk j (by omega) hj
    rw [if_pos hall]
    refine Ev.step (g := fun k => (diaphoneref05_Validate.f k s).bind fun t106 => (if t106 = 0 then (some (s, 0)) else (some (([] : List Int), t106)))) ?_ fun k => ?_
    · refine Ev.bind (rvalidate_ev s) ?_
      by_cases h : vErr s = 0
      · simp only [if_pos h]; exact Ev.pure _
      · simp only [if_neg h]; exact Ev.pure _
    · rw [diaphoneref05_made.l0, if_neg (by omega)]
  | succ m ih =>
    intro i hm hi hk
    by_cases he : at_ s i = at_ s (i - 1)
    · have hno : ¬ allKept s := fun hall => by
        have := hall i (by omega)
        rw [keeps_at s i (by omega), decide_eq_true_eq] at this
        omega
      rw [if_neg hno]
      refine Ev.step (Ev.pure _) fun k => ?_
      rw [diaphoneref05_made.l0, if_pos (by omega), if_pos (by omega), wrap_pred (by omega) hi, if_pos (by omega), if_pos (by omega), rd_at, rd_at, if_pos he]
    · refine Ev.step (ih (i + 1) (by omega) (by omega) (fun j hj hjl => ?_)) fun k => ?_
      · by_cases e : j = i
        · subst e
          rw [keeps_at s j hjl]
          simp [he]
        · exact hk j (by omega) hjl
      · rw [diaphoneref05_made.l0, if_pos (by omega), if_pos (by omega), wrap_pred (by omega) hi, if_pos (by omega), if_pos (by omega), rd_at, rd_at, if_neg he, wrap_succ (by omega)]
theorem made_ev (l : List Int) (hl : l.length ≤ 1000000) : Ev (fun k => diaphoneref05_made.f k l) (if l.Nodup then (if vErr (isortI l) = 0 then (isortI l, 0) else ([], vErr (isortI l))) else ([], 5)) := by
  unfold diaphoneref05_made.f
  refine Ev.bind (sorted_ev l (by omega)) ?_
  have hlen : (isortI l).length = l.length := (isortI_perm l).length_eq
  have := made_l0 (isortI l) (by omega) _ 1 rfl (by omega) (fun j hj hl => by
    have : j = 0 := by omega
    subst this
    rw [keeps_at _ _ hl]
    simp)
  have e : allKept (isortI l) ↔ l.Nodup := (nodup_kept (isortI_sorted l)).trans (isortI_perm l).nodup_iff
  by_cases h : l.Nodup
  · rw [if_pos (e.2 h)] at this
    rw [if_pos h]
    exact this
  · rw [if_neg (fun h' => h (e.1 h'))] at this
    rw [if_neg h]
    exact this
theorem V.nodup {c : List Int} (h : V c) : c.Nodup := h.pairwise.imp (fun h => by omega)
theorem RWith_ev (c : List Int) (v : Int) : Ev (fun k => diaphoneref05_With.f k c v) (wR c v) := by
  unfold diaphoneref05_With.f wR
  refine Ev.bind (rvalidate_ev c) ?_
  by_cases h : vErr c = 0
  · simp only [if_pos h]
    have hv := vErr_zero h
    have h6 := hv.six
    refine Ev.some_bind ?_
    simp only [List.length_nil, Nat.zero_add, if_pos (show c.length < 17592186044416 by omega), List.nil_append]
    refine Ev.some_bind ?_
    simp only [if_pos (show c.length < 17592186044416 by omega)]
    refine Ev.bind (made_ev (c ++ [v]) (by simp; omega)) ?_
    by_cases hm : v ∈ c
    · have hn : ¬ (c ++ [v]).Nodup := fun hh => by
        rw [List.nodup_append] at hh
        exact hh.2.2 v hm v (by simp) rfl
      simp only [if_neg hn, if_pos hm]
      exact Ev.pure _
    · have hn : (c ++ [v]).Nodup := by
        rw [List.nodup_append]
        refine ⟨hv.nodup, by simp, fun a ha b hb e => ?_⟩
        rw [List.mem_singleton.1 hb] at e
        rw [e] at ha
        exact hm ha
      simp only [if_pos hn, if_neg hm]
      exact Ev.pure _
  · simp only [if_neg h]; exact Ev.pure _

/-! ### The delays with one more place -/
theorem P_insert (v : Int) (b : List Int) : ∀ a : List Int, (P (a ++ v :: b)).Perm (P (a ++ b) ++ (a.map (fun x => v - x) ++ b.map (fun x => x - v)))
  | [] => by
    simp only [List.nil_append, P, List.map_nil]
    exact List.perm_append_comm
  | x :: t => by
    have ih := P_insert v b t
    simp only [List.cons_append, P, List.map_append, List.map_cons]
    rw [List.perm_iff_count] at ih ⊢
    intro y
    have := ih y
    simp only [List.count_append, List.count_cons] at this ⊢
    omega
theorem dl_wth {c : List Int} {v : Int} (h : V c) : dl (wth c v) = isortI (P c ++ c.map fun x => mx (x - v) (v - x)) := by
  have h6 := h.six
  obtain ⟨p, h1, h2, h3, _⟩ := search_ev v (fun i j hij hj => h.lt hij hj) (by omega : c.length ≤ 1000)
  rw [dl_P]
  apply isortI_congr
  unfold wth
  rw [← insert_sorted h h1 h2 h3, List.append_assoc, List.singleton_append]
  refine (P_insert v _ _).trans ?_
  rw [List.take_append_drop]
  refine List.Perm.append_left _ ?_
  have e1 : (c.take p).map (fun x => v - x) = (c.take p).map fun x => mx (x - v) (v - x) := by
    apply List.map_congr_left
    intro x hx
    obtain ⟨j, hj, rfl⟩ := List.mem_iff_getElem.1 hx
    rw [List.length_take] at hj
    rw [List.getElem_take, ← at_lt]
    have := h2 j (by omega)
    unfold mx
    rw [if_pos (by omega)]
  have e2 : (c.drop p).map (fun x => x - v) = (c.drop p).map fun x => mx (x - v) (v - x) := by
    apply List.map_congr_left
    intro x hx
    obtain ⟨j, hj, rfl⟩ := List.mem_iff_getElem.1 hx
    rw [List.length_drop] at hj
    rw [List.getElem_drop, ← at_lt]
    have := h3 (p + j) (by omega) (by omega)
    unfold mx
    split <;> omega
  rw [e1, e2, ← List.map_append, List.take_append_drop]
end Go.Proofs.Ytlbhedhbakhhlaa.Q

/- What the search tells: all rows that have the delays, and no others. -/
namespace Go.Proofs.Ytlbhedhbakhhlaa.Q
open Go.RowKit Go.Proofs.YtlbhedhbakhhlaaW.PrintWords Go.Proofs.YtlbhedhbakhhlaaW.PrintLast Go.Proofs.YtlbhedhbakhhlaaW.PrintMore

/-! ### without -/
def wo : List Int → List Int → Option (List Int)
  | l, [] => some l
  | l, x :: t => if x ∈ l then wo (l.erase x) t else none
theorem wo_some : ∀ (own l r : List Int), wo l own = some r → ∀ y, r.count y + own.count y = l.count y
  | [], l, r, h, y => by
    rw [wo] at h
    obtain rfl := Option.some.inj h
    simp
  | x :: t, l, r, h, y => by
    rw [wo] at h
    split at h
    · rename_i hx
      have h1 := wo_some t _ r h y
      rw [List.count_erase] at h1
      rw [List.count_cons]
      have h2 : 0 < l.count x := List.count_pos_iff.2 hx
      by_cases e : x = y
      · subst e
        simp at h1 ⊢
        omega
      · have e1 : (x == y) = false := by simpa using e
        rw [e1] at h1 ⊢
        simp at h1 ⊢
        omega
    · cases h
theorem wo_ok : ∀ (own l : List Int), (∀ y, own.count y ≤ l.count y) → ∃ r, wo l own = some r
  | [], l, _ => ⟨l, rfl⟩
  | x :: t, l, h => by
    have hx : x ∈ l := by
      have := h x
      rw [List.count_cons_self] at this
      exact List.count_pos_iff.1 (by omega)
    rw [wo, if_pos hx]
    refine wo_ok t _ fun y => ?_
    have := h y
    rw [List.count_erase]
    rw [List.count_cons] at this
    have h2 : 0 < l.count x := List.count_pos_iff.2 hx
    by_cases e : x = y
    · subst e
      simp at this ⊢
      omega
    · have e1 : (x == y) = false := by simpa using e
      rw [e1] at this ⊢
      simpa using this
theorem wo_sub : ∀ (own l r : List Int), wo l own = some r → r.Sublist l
  | [], l, r, h => by
    rw [wo] at h
    obtain rfl := Option.some.inj h
    exact List.Sublist.refl _
  | x :: t, l, r, h => by
    rw [wo] at h
    split at h
    · exact (wo_sub t _ r h).trans List.erase_sublist
    · cases h
theorem without_l0 (own : List Int) (ho : own.length ≤ 1000) : ∀ m i (l : List Int), own.length - i = m → i ≤ own.length → l.length ≤ 1000 →
    Ev (fun k => echo_without.l0 k l own (own.length : Int) (i : Int)) (match wo l (own.drop i) with | some r => (r, true) | none => ([], false)) := by
  intro m
  induction m with
  | zero =>
    intro i l hm hi hl
    rw [List.drop_of_length_le (by omega)]
    refine Ev.step (Ev.pure _) fun k => ?_
    rw [echo_without.l0, if_neg (by omega)]
    rfl
  | succ m ih =>
    intro i l hm hi hl
    have hlt : i < own.length := by omega
    rw [List.drop_eq_getElem_cons hlt, wo]
    refine Ev.step (g := fun k => (slices_Index_int_int.f k l own[i]).bind fun t105 => (if t105 < 0 then (some (([] : List Int), false)) else ((slices_Delete_int_int.f l t105 (wrap64 (t105 + 1))).bind fun t106 => (echo_without.l0 k t106 own (own.length : Int) (wrap64 ((i : Int) + 1)))))) ?_ fun k => ?_
    · refine Ev.bind (index_ev l own[i] (by omega)) ?_
      rcases fidx_spec own[i] l 0 with ⟨h1, h2⟩ | ⟨j, h1, h2, h3, h4⟩
      · rw [h1, if_neg h2]
        simp only [if_pos (show (-1 : Int) < 0 by decide)]
        exact Ev.pure _
      · rw [h2, if_pos h3, Nat.zero_add]
        simp only [if_neg (show ¬ ((j : Nat) : Int) < 0 by omega)]
        have e : slices_Delete_int_int.f l (j : Int) (wrap64 ((j : Int) + 1)) = some (l.erase own[i]) := by
          unfold slices_Delete_int_int.f
          rw [wrap_succ (by omega), if_pos (by omega), Int.toNat_natCast, Int.toNat_natCast, ← h4, List.eraseIdx_eq_take_drop_succ]
        rw [e]
        refine Ev.some_bind ?_
        rw [wrap_succ (by omega)]
        exact ih (i + 1) _ (by omega) (by omega) (by have := List.length_erase_le (a := own[i]) (l := l); omega)
    · rw [echo_without.l0, if_pos (by omega), if_pos (by omega), if_pos (by omega), rd_lt own i hlt]
theorem without_ev (l own : List Int) (hl : l.length ≤ 1000) (ho : own.length ≤ 1000) : Ev (fun k => echo_without.f k l own) (match wo l own with | some r => (r, true) | none => ([], false)) := by
  unfold echo_without.f slices_Clone_int_int.f
  rw [if_pos (by omega)]
  refine Ev.some_bind ?_
  have := without_l0 own ho own.length 0 l (by omega) (by omega) hl
  simpa using this

/-! ### Rows that hold one another -/
theorem P_sub {c d : List Int} (h : c.Sublist d) : (P c).Sublist (P d) := by
  induction h with
  | slnil => exact List.Sublist.refl _
  | cons a h ih => exact ih.trans (List.sublist_append_right _ _)
  | cons_cons a h ih => exact (h.map _).append ih
theorem sub_of {c : List Int} : ∀ {d : List Int}, c.Pairwise (fun a b => a < b) → d.Pairwise (fun a b => a < b) → (∀ x ∈ c, x ∈ d) → c.Sublist d := by
  induction c with
  | nil => intro d _ _ _; exact List.nil_sublist _
  | cons b t iht =>
    intro d
    induction d with
    | nil => intro _ _ h; exact absurd (h b List.mem_cons_self) (by simp)
    | cons a u ihu =>
      intro hc hd h
      rw [List.pairwise_cons] at hd
      have hc' := List.pairwise_cons.1 hc
      by_cases e : b = a
      · subst e
        refine List.Sublist.cons_cons b (iht hc'.2 hd.2 fun x hx => ?_)
        have h1 := hc'.1 x hx
        rcases List.mem_cons.1 (h x (List.mem_cons_of_mem _ hx)) with rfl | h2
        · omega
        · exact h2
      · refine List.Sublist.cons a (ihu hc hd.2 fun x hx => ?_)
        have hb : b ∈ u := (List.mem_cons.1 (h b List.mem_cons_self)).resolve_left e
        have hab := hd.1 b hb
        rcases List.mem_cons.1 (h x hx) with rfl | h2
        · rcases List.mem_cons.1 hx with rfl | hx
          · exact absurd rfl e
          · have := hc'.1 x hx; omega
        · exact h2

theorem asc_lt {c : List Int} (h : c.Pairwise (fun a b => a < b)) : ∀ i j, i < j → j < c.length → at_ c i < at_ c j := fun i j hij hj => by
  rw [at_lt _ _ hj, at_lt _ i (by omega)]
  exact List.pairwise_iff_getElem.1 h i j (by omega) hj hij
/-- With one more place. -/
def ins (c : List Int) (v : Int) : List Int := isortI (c ++ [v])
theorem ins_mem (c : List Int) (v x : Int) : x ∈ ins c v ↔ x ∈ c ∨ x = v := by
  rw [show (x ∈ ins c v ↔ x ∈ c ++ [v]) from (isortI_perm _).mem_iff]
  simp
theorem ins_len (c : List Int) (v : Int) : (ins c v).length = c.length + 1 := by
  unfold ins
  rw [(isortI_perm _).length_eq]
  simp
theorem ins_eq {c : List Int} {v : Int} {p : Nat} (h : c.Pairwise (fun a b => a < b)) (hp : p ≤ c.length) (hlo : ∀ a, a < p → at_ c a < v) (hhi : ∀ a, p ≤ a → a < c.length → v ≤ at_ c a) : c.take p ++ [v] ++ c.drop p = ins c v := by
  apply isortI_uniq
  · have h1 : (c.take p ++ [v] ++ c.drop p).Perm (c.take p ++ (c.drop p ++ [v])) := by
      rw [List.append_assoc]
      exact (List.perm_append_comm).append_left _
    refine h1.trans ?_
    rw [← List.append_assoc, List.take_append_drop]
  · have hw : c.Pairwise (fun a b => a ≤ b) := h.imp (fun h => by omega)
    rw [List.append_assoc, List.pairwise_append]
    refine ⟨hw.sublist (List.take_sublist _ _), ?_, ?_⟩
    · rw [List.singleton_append, List.pairwise_cons]
      refine ⟨fun x hx => ?_, hw.sublist (List.drop_sublist _ _)⟩
      obtain ⟨j, hj, rfl⟩ := List.mem_iff_getElem.1 hx
      rw [List.length_drop] at hj
      rw [List.getElem_drop, ← at_lt]
      exact hhi _ (by omega) (by omega)
    · intro x hx y hy
      obtain ⟨j, hj, rfl⟩ := List.mem_iff_getElem.1 hx
      rw [List.length_take] at hj
      rw [List.getElem_take, ← at_lt]
      have h1 := hlo j (by omega)
      rcases List.mem_append.1 hy with hy | hy
      · rw [List.mem_singleton.1 hy]; omega
      · obtain ⟨i, hi, rfl⟩ := List.mem_iff_getElem.1 hy
        rw [List.length_drop] at hi
        rw [List.getElem_drop, ← at_lt]
        have := hhi (p + i) (by omega) (by omega)
        omega
theorem ins_asc {c : List Int} {v : Int} (h : c.Pairwise (fun a b => a < b)) (hv : v ∉ c) : (ins c v).Pairwise (fun a b => a < b) := by
  have h1 : (ins c v).Pairwise (fun a b => a ≤ b) := isortI_sorted _
  have h2 : (ins c v).Nodup := by
    have : (c ++ [v]).Nodup := by
      rw [List.nodup_append]
      refine ⟨h.imp (fun h => by omega), by simp, fun a ha b hb e => ?_⟩
      rw [List.mem_singleton.1 hb] at e
      rw [e] at ha
      exact hv ha
    exact (isortI_perm _).nodup_iff.2 this
  exact (h1.and h2).imp fun h => by omega
/-- How far a place is from the others. -/
def own (c : List Int) (v : Int) : List Int := c.map fun x => mx (v - x) (x - v)
theorem P_ins {c : List Int} (v : Int) (h : c.Pairwise (fun a b => a < b)) (hl : c.length ≤ 1000) : (P (ins c v)).Perm (P c ++ own c v) := by
  obtain ⟨p, h1, h2, h3, _⟩ := search_ev v (asc_lt h) hl
  rw [← ins_eq h h1 h2 h3, List.append_assoc, List.singleton_append]
  refine (P_insert v _ _).trans ?_
  rw [List.take_append_drop]
  refine List.Perm.append_left _ ?_
  have e1 : (c.take p).map (fun x => v - x) = (c.take p).map fun x => mx (v - x) (x - v) := by
    apply List.map_congr_left
    intro x hx
    obtain ⟨j, hj, rfl⟩ := List.mem_iff_getElem.1 hx
    rw [List.length_take] at hj
    rw [List.getElem_take, ← at_lt]
    have := h2 j (by omega)
    unfold mx
    rw [if_neg (by omega)]
  have e2 : (c.drop p).map (fun x => x - v) = (c.drop p).map fun x => mx (v - x) (x - v) := by
    apply List.map_congr_left
    intro x hx
    obtain ⟨j, hj, rfl⟩ := List.mem_iff_getElem.1 hx
    rw [List.length_drop] at hj
    rw [List.getElem_drop, ← at_lt]
    have := h3 (p + j) (by omega) (by omega)
    unfold mx
    split <;> omega
  unfold own
  rw [e1, e2, ← List.map_append, List.take_append_drop]

/-- A row of places from 0 to L. -/
structure Row (L : Int) (c : List Int) : Prop where
  asc : c.Pairwise (fun a b => a < b)
  zero : 0 ∈ c
  last : L ∈ c
  rng : ∀ x ∈ c, 0 ≤ x ∧ x ≤ L
theorem Row.ins {L : Int} {c : List Int} (h : Row L c) {v : Int} (hv : v ∉ c) (h0 : 0 ≤ v) (hL : v ≤ L) : Row L (ins c v) where
  asc := ins_asc h.asc hv
  zero := (ins_mem _ _ _).2 (.inl h.zero)
  last := (ins_mem _ _ _).2 (.inl h.last)
  rng := fun x hx => by
    rcases (ins_mem _ _ _).1 hx with hx | rfl
    · exact h.rng x hx
    · exact ⟨h0, hL⟩
theorem Row.pos {L : Int} {c : List Int} (h : Row L c) : 0 < c.length := List.length_pos_of_mem h.zero
theorem Row.at0 {L : Int} {c : List Int} (h : Row L c) : at_ c 0 = 0 := by
  have hp := h.pos
  obtain ⟨i, hi, he⟩ := List.mem_iff_getElem.1 h.zero
  rw [← at_lt] at he
  have h1 := h.rng (at_ c 0) (by rw [at_lt _ _ hp]; exact List.getElem_mem hp)
  by_cases e : i = 0
  · rw [e] at he; exact he
  · have := asc_lt h.asc 0 i (by omega) hi
    omega
theorem Row.atL {L : Int} {c : List Int} (h : Row L c) : at_ c (c.length - 1) = L := by
  have hp := h.pos
  obtain ⟨i, hi, he⟩ := List.mem_iff_getElem.1 h.last
  rw [← at_lt] at he
  have h1 := h.rng (at_ c (c.length - 1)) (by rw [at_lt _ _ (by omega)]; exact List.getElem_mem _)
  by_cases e : i = c.length - 1
  · rw [e] at he; exact he
  · have := asc_lt h.asc i (c.length - 1) (by omega) (by omega)
    omega
theorem P_len : ∀ c : List Int, 2 * (P c).length = c.length * (c.length - 1)
  | [] => rfl
  | a :: t => by
    have ih := P_len t
    rw [P, List.length_append, List.length_map, List.length_cons, Nat.add_sub_cancel, Nat.mul_add, ih, Nat.add_mul, Nat.one_mul]
    cases h : t.length with
    | zero => rfl
    | succ n =>
      rw [Nat.add_sub_cancel, Nat.mul_comm (n + 1) n, Nat.mul_comm (n + 1) (n + 1), Nat.add_mul, Nat.mul_add, Nat.mul_add]
      omega
theorem len_six {c : List Int} (h : (P c).length ≤ 15) : c.length ≤ 6 := by
  have h1 := P_len c
  by_cases h7 : c.length ≤ 6
  · exact h7
  · exfalso
    have := Nat.mul_le_mul (show 7 ≤ c.length by omega) (show 6 ≤ c.length - 1 by omega)
    omega
theorem len_eq {c d : List Int} (h : (P c).length = (P d).length) (hc : 0 < c.length) (hd : 0 < d.length) : c.length = d.length := by
  have h1 := P_len c
  have h2 := P_len d
  rw [h, h2] at h1
  by_cases a : c.length < d.length
  · have := Nat.mul_lt_mul_of_lt_of_le (show c.length < d.length from a) (show c.length - 1 ≤ d.length - 1 by omega) (by omega)
    omega
  · by_cases b : d.length < c.length
    · have := Nat.mul_lt_mul_of_lt_of_le (show d.length < c.length from b) (show d.length - 1 ≤ c.length - 1 by omega) (by omega)
      omega
    · omega
theorem Row.v {L : Int} {c : List Int} (h : Row L c) (hL : L ≤ 60) (h6 : c.length ≤ 6) : V c := by
  refine V.of_lt h.pos h6 (fun i hi => ?_) (fun i hi => asc_lt h.asc i (i + 1) (by omega) hi) ?_
  · have := h.rng (at_ c i) (by rw [at_lt _ _ hi]; exact List.getElem_mem hi)
    omega
  · rw [h.at0, h.atL]
    omega
/-- What the greatest missing delay tells of a fuller row. -/
theorem gap {L : Int} (y : Int) : ∀ n (c d : List Int), d.length - c.length = n → Row L c → Row L d → (∀ x ∈ c, x ∈ d) → d.length ≤ 1000 → (P c).count y < (P d).count y → ∃ x ∈ d, x ∉ c ∧ y ≤ max x (L - x) := by
  intro n
  induction n with
  | zero =>
    intro c d hn hc hd hs hl hlt
    have h1 := sub_of hc.asc hd.asc hs
    have := h1.length_le
    have h2 : c = d := h1.eq_of_length (by omega)
    rw [h2] at hlt
    omega
  | succ n ih =>
    intro c d hn hc hd hs hl hlt
    have h1 := sub_of hc.asc hd.asc hs
    obtain ⟨x, hx, hxc⟩ : ∃ x ∈ d, x ∉ c := by
      by_cases hall : ∀ x ∈ d, x ∈ c
      · have h2 := (sub_of hd.asc hc.asc hall).length_le
        omega
      · obtain ⟨x, hx⟩ := Classical.not_forall.1 hall
        exact ⟨x, Classical.not_imp.1 hx⟩
    have hxr := hd.rng x hx
    have hP := (List.perm_iff_count.1 (P_ins x hc.asc (by have := h1.length_le; omega))) y
    rw [List.count_append] at hP
    by_cases hown : 0 < (own c x).count y
    · refine ⟨x, hx, hxc, ?_⟩
      obtain ⟨z, hz, rfl⟩ := List.mem_map.1 (List.count_pos_iff.1 hown)
      have := hc.rng z hz
      unfold mx
      split <;> omega
    · obtain ⟨x', h3, h4, h5⟩ := ih (ins c x) d (by rw [ins_len]; omega) (hc.ins hxc hxr.1 hxr.2) hd (fun z hz => by
        rcases (ins_mem _ _ _).1 hz with hz | rfl
        · exact hs z hz
        · exact hx) hl (by omega)
      exact ⟨x', h3, fun hh => h4 ((ins_mem _ _ _).2 (.inl hh)), h5⟩

/-! ### The search -/
section
variable (T : List Int → List (List Int) → Option (List (List Int)))
/-- What comes behind the distances of a new place. -/
def after (k : Nat) (c rest : List Int) (s : List (List Int)) (v : Int) (p : Int) (y : List Int) (j : Int) (ow : List Int) : Option (List (List Int)) :=
  (echo_without.f k rest ow).bind fun bt114 => (if bt114.2 = true then ((slices_Clone_int_int.f c).bind fun t118 => ((slices_Insert_int_int.f t118 p (([v] : List Int))).bind fun t124 => ((echo_search.f T k t124 bt114.1 s).bind fun t127 => (echo_search.l0 T k c rest t127 y (y.length : Int) (wrap64 (j + 1)))))) else (echo_search.l0 T k c rest s y (y.length : Int) (wrap64 (j + 1))))
theorem own_l1 (c rest : List Int) (s : List (List Int)) (v : Int) (p : Int) (y : List Int) (j : Int) (hc : c.length ≤ 1000) (hr : ∀ x ∈ c, -1000 ≤ x ∧ x ≤ 1000) (hv : -1000 ≤ v ∧ v ≤ 1000) {r : List (List Int)} (ha : Ev (fun k => after T k c rest s v p y j (own c v)) r) :
    ∀ m i, c.length - i = m → i ≤ c.length → Ev (fun k => echo_search.l1 T k c rest s v p ((own c v).take i) y (y.length : Int) j c (c.length : Int) (i : Int)) r := by
  have hol : (own c v).length = c.length := by simp [own]
  intro m
  induction m with
  | zero =>
    intro i hm hi
    rw [List.take_of_length_le (by omega)]
    refine Ev.step ha fun k => ?_
    rw [echo_search.l1, if_neg (by omega)]
    rfl
  | succ m ih =>
    intro i hm hi
    have hlt : i < c.length := by omega
    have h1 := hr c[i] (List.getElem_mem hlt)
    refine Ev.step (ih (i + 1) (by omega) (by omega)) fun k => ?_
    rw [echo_search.l1, if_pos (by omega), if_pos (by omega), if_pos (by omega), if_pos (by simp; omega), rd_lt c i hlt, wrap_of (show -9223372036854775808 ≤ v - c[i] by omega) (by omega), wrap_of (show -9223372036854775808 ≤ c[i] - v by omega) (by omega), wrap_succ (by omega), List.take_succ_eq_append_getElem (by omega)]
    congr 2
    simp [own]

/-- A row that has the delays. -/
def Good (L : Int) (l c : List Int) : Prop := Row L c ∧ (P c).Perm l
/-- Where a search stands. -/
structure Ctx (L : Int) (l c rest : List Int) : Prop where
  row : Row L c
  cnt : ∀ y, (P c).count y + rest.count y = l.count y
  srt : rest.Pairwise (fun a b => a ≤ b)
theorem Ctx.perm {L : Int} {l c rest : List Int} (h : Ctx L l c rest) : (P c ++ rest).Perm l := by
  rw [List.perm_iff_count]
  intro y
  rw [List.count_append]
  exact h.cnt y
theorem Ctx.lens {L : Int} {l c rest : List Int} (h : Ctx L l c rest) (hl : l.length ≤ 15) : c.length ≤ 6 ∧ rest.length ≤ 15 := by
  have h1 := h.perm.length_eq
  rw [List.length_append] at h1
  exact ⟨len_six (by omega), by omega⟩
theorem Good.six {L : Int} {l c : List Int} (h : Good L l c) (hl : l.length ≤ 15) : c.length ≤ 6 := len_six (by have := h.2.length_eq; omega)
/-- What is told from a place on. -/
def Tells (L : Int) (l c rest : List Int) (s : List (List Int)) : Prop :=
  ∃ rows : List (List Int), Ev (fun k => echo_search.f T k c rest s) (s ++ rows.map nf) ∧ rows.length ≤ 2 ^ rest.length ∧ (∀ r ∈ rows, Good L l r) ∧ (∀ d, Good L l d → (∀ x ∈ c, x ∈ d) → d ∈ rows)

theorem visit {L : Int} {l : List Int} (hL : 0 ≤ L ∧ L ≤ 60) (hl : l.length ≤ 15) {c rest : List Int} (h : Ctx L l c rest) (s : List (List Int)) (y : List Int) (j : Nat) (hj : j < y.length) (hy : y.length = 2) (hv : -1000 ≤ at_ y j ∧ at_ y j ≤ 1000)
    (H : ∀ c' rest', Ctx L l c' rest' → rest'.length < rest.length → Tells T L l c' rest' s) :
    ∃ rows : List (List Int), rows.length ≤ 2 ^ (rest.length - 1) ∧ (∀ r ∈ rows, Good L l r) ∧ (∀ d, Good L l d → (∀ x ∈ c, x ∈ d) → at_ y j ∈ d → at_ y j ∉ c → d ∈ rows) ∧
      ∀ R, Ev (fun k => echo_search.l0 T k c rest (s ++ rows.map nf) y (y.length : Int) ((j + 1 : Nat) : Int)) R → Ev (fun k => echo_search.l0 T k c rest s y (y.length : Int) (j : Int)) R := by
  obtain ⟨hc6, hr15⟩ := h.lens hl
  have hp0 := h.row.pos
  obtain ⟨p, h1, h2, h3, h4⟩ := search_ev (at_ y j) (asc_lt h.row.asc) (by omega : c.length ≤ 1000)
  -- the loop's step, in one form for all ways
  have step : ∀ R, Ev (fun k => if decide (at_ y j ∈ c) = true then (echo_search.j1 T k c rest s (at_ y j) (p : Int) y (y.length : Int) (j : Int) true) else (if (p : Int) = 0 then (echo_search.j1 T k c rest s (at_ y j) (p : Int) y (y.length : Int) (j : Int) true) else (echo_search.j1 T k c rest s (at_ y j) (p : Int) y (y.length : Int) (j : Int) ((p : Int) == (c.length : Int))))) R →
      Ev (fun k => echo_search.l0 T k c rest s y (y.length : Int) (j : Int)) R := fun R hR => by
    refine Ev.step (g := fun k => (slices_BinarySearch_int_int.f k c (at_ y j)).bind fun bt108 => (if bt108.2 = true then (echo_search.j1 T k c rest s (at_ y j) bt108.1 y (y.length : Int) (j : Int) true) else (if bt108.1 = 0 then (echo_search.j1 T k c rest s (at_ y j) bt108.1 y (y.length : Int) (j : Int) true) else (echo_search.j1 T k c rest s (at_ y j) bt108.1 y (y.length : Int) (j : Int) (bt108.1 == (c.length : Int)))))) ?_ fun k => ?_
    · exact Ev.bind h4 hR
    · rw [echo_search.l0, if_pos (by omega), if_pos (by omega), if_pos (by omega), rd_at]
  -- a candidate that is passed by
  have pass : ∀ R, Ev (fun k => echo_search.l0 T k c rest s y (y.length : Int) ((j + 1 : Nat) : Int)) R → Ev (fun k => echo_search.j1 T k c rest s (at_ y j) (p : Int) y (y.length : Int) (j : Int) true) R := fun R hR => by
    refine Ev.step hR fun k => ?_
    rw [echo_search.j1, if_pos rfl, wrap_succ (by omega)]
  by_cases hm : at_ y j ∈ c
  · refine ⟨[], by simp, by simp, fun d _ _ _ hn => absurd hm hn, fun R hR => step R ?_⟩
    simp only [decide_eq_true hm, if_true]
    exact pass R (by simpa using hR)
  · by_cases hp : p = 0
    · refine ⟨[], by simp, by simp, fun d hd _ hvd _ => ?_, fun R hR => step R ?_⟩
      · exfalso
        have a := (hd.1.rng _ hvd).1
        have b := h3 0 (by omega) hp0
        rw [h.row.at0] at b
        have : at_ y j = 0 := by omega
        rw [this] at hm
        exact hm h.row.zero
      · simp only [decide_eq_false hm, Bool.false_eq_true, if_false, if_pos (show (p : Int) = 0 by omega)]
        exact pass R (by simpa using hR)
    · by_cases hpl : p = c.length
      · refine ⟨[], by simp, by simp, fun d hd _ hvd _ => ?_, fun R hR => step R ?_⟩
        · exfalso
          have a := (hd.1.rng _ hvd).2
          have b := h2 (c.length - 1) (by omega)
          rw [h.row.atL] at b
          omega
        · simp only [decide_eq_false hm, Bool.false_eq_true, if_false, if_neg (show ¬ (p : Int) = 0 by omega), beq_iff_eq.2 (show (p : Int) = (c.length : Int) by omega)]
          exact pass R (by simpa using hR)
      · have hv0 : 0 ≤ at_ y j := by
          have := h2 0 (by omega)
          rw [h.row.at0] at this
          omega
        have hvL : at_ y j ≤ L := by
          have := h3 (c.length - 1) (by omega) (by omega)
          rw [h.row.atL] at this
          exact this
        have hrow := h.row.ins hm hv0 hvL
        have hPi := fun z => (List.perm_iff_count.1 (P_ins (at_ y j) h.row.asc (by omega))) z
        have hol : (own c (at_ y j)).length = c.length := by simp [own]
        have go : ∀ R, Ev (fun k => after T k c rest s (at_ y j) (p : Int) y (j : Int) (own c (at_ y j))) R → Ev (fun k => echo_search.l0 T k c rest s y (y.length : Int) (j : Int)) R := fun R hR => step R (by
          have e : ((p : Int) == (c.length : Int)) = false := by simpa using (show ¬ (p : Int) = (c.length : Int) by omega)
          simp only [decide_eq_false hm, Bool.false_eq_true, if_false, if_neg (show ¬ (p : Int) = 0 by omega), e]
          refine Ev.step (own_l1 T c rest s (at_ y j) (p : Int) y (j : Int) (by omega) (fun x hx => by have := h.row.rng x hx; omega) (by omega) hR c.length 0 (by omega) (by omega)) fun k => ?_
          rw [echo_search.j1, if_neg (by decide), List.take_zero]
          rfl)
        cases hw : wo rest (own c (at_ y j)) with
        | none =>
          refine ⟨[], by simp, by simp, fun d hd hcd hvd hn => ?_, fun R hR => go R ?_⟩
          · exfalso
            have hsub := P_sub (sub_of hrow.asc hd.1.asc fun x hx => by
              rcases (ins_mem _ _ _).1 hx with hx | rfl
              · exact hcd x hx
              · exact hvd)
            obtain ⟨r, hr⟩ := wo_ok (own c (at_ y j)) rest fun z => by
              have a := hsub.count_le z
              have b := hPi z
              have e := h.cnt z
              have f := List.perm_iff_count.1 hd.2 z
              rw [List.count_append] at b
              omega
            rw [hw] at hr
            cases hr
          · refine Ev.bind (without_ev rest _ (by omega) (by omega)) ?_
            rw [hw]
            simp only [Bool.false_eq_true, if_false, wrap_succ (show j < 9223372036854775807 by omega)]
            simpa using hR
        | some less =>
          have hcnt := wo_some _ _ _ hw
          have hlen : less.length + c.length = rest.length := by
            have hp : (less ++ own c (at_ y j)).Perm rest := by
              rw [List.perm_iff_count]
              intro z
              rw [List.count_append]
              exact hcnt z
            have := hp.length_eq
            rw [List.length_append, hol] at this
            exact this
          have hctx : Ctx L l (ins c (at_ y j)) less := ⟨hrow, fun z => by
            have b := hPi z
            have e := h.cnt z
            have f := hcnt z
            rw [List.count_append] at b
            omega, h.srt.sublist (wo_sub _ _ _ hw)⟩
          obtain ⟨rows, r1, r2, r3, r4⟩ := H _ _ hctx (by omega)
          refine ⟨rows, Nat.le_trans r2 (Nat.pow_le_pow_right (by omega) (by omega)), r3, fun d hd hcd hvd _ => r4 d hd fun x hx => ?_, fun R hR => go R ?_⟩
          · rcases (ins_mem _ _ _).1 hx with hx | rfl
            · exact hcd x hx
            · exact hvd
          · refine Ev.bind (without_ev rest _ (by omega) (by omega)) ?_
            rw [hw]
            simp only [if_true]
            unfold slices_Clone_int_int.f
            rw [if_pos (by omega)]
            refine Ev.some_bind ?_
            have e : slices_Insert_int_int.f c (p : Int) [at_ y j] = some (ins c (at_ y j)) := by
              unfold slices_Insert_int_int.f
              rw [if_pos ⟨rfl, by omega, by omega, by omega⟩, Int.toNat_natCast, ins_eq h.row.asc h1 h2 h3]
            rw [e]
            refine Ev.some_bind ?_
            refine Ev.bind r1 ?_
            rw [wrap_succ (show j < 9223372036854775807 by omega)]
            exact hR

theorem hunt {L : Int} {l : List Int} (hT : ∀ r s, V r → s.length < 1000000 → T r s = some (s ++ [nf r])) (hL : 0 ≤ L ∧ L ≤ 60) (hl : l.length ≤ 15) (hlr : ∀ y ∈ l, 1 ≤ y ∧ y ≤ 60) :
    ∀ n (c rest : List Int) (s : List (List Int)), rest.length = n → Ctx L l c rest → s.length + 2 ^ n ≤ 1000000 → Tells T L l c rest s := by
  intro n
  induction n using Nat.strongRecOn with
  | _ n ih =>
    intro c rest s hn h hs
    obtain ⟨hc6, hr15⟩ := h.lens hl
    have hp0 := h.row.pos
    by_cases h0 : n = 0
    · subst h0
      obtain rfl := List.length_eq_zero_iff.1 hn
      have hg : Good L l c := ⟨h.row, by have := h.perm; rwa [List.append_nil] at this⟩
      refine ⟨[c], Ev.step (Ev.pure _) fun k => ?_, by simp, fun r hr => by rw [List.mem_singleton.1 hr]; exact hg, fun d hd hcd => ?_⟩
      · rw [echo_search.f, if_pos (by simp), hT c s (h.row.v hL.2 hc6) (by simp at hs; omega)]
        rfl
      · have hsub := sub_of h.row.asc hd.1.asc hcd
        have hlen : c.length = d.length := len_eq (by rw [hg.2.length_eq, hd.2.length_eq]) hp0 hd.1.pos
        rw [hsub.eq_of_length hlen]
        simp
    · have hrl : 0 < rest.length := by omega
      have hfin : rest[rest.length - 1] ∈ rest := List.getElem_mem _
      have hfl : rest[rest.length - 1] ∈ l := h.perm.mem_iff.1 (List.mem_append_right _ hfin)
      have hfr := hlr _ hfl
      have hfar : rd rest ((rest.length - 1 : Nat) : Int) = rest[rest.length - 1] := rd_lt _ _ (by omega)
      have hlast : rd c ((c.length - 1 : Nat) : Int) = L := h.row.atL
      have hw : wrap64 (L - rest[rest.length - 1]) = L - rest[rest.length - 1] := wrap_of (by omega) (by omega)
      let y : List Int := [rest[rest.length - 1], L - rest[rest.length - 1]]
      have hy0 : at_ y 0 = rest[rest.length - 1] := rfl
      have hy1 : at_ y 1 = L - rest[rest.length - 1] := rfl
      have hpow : 2 ^ (n - 1) + 2 ^ (n - 1) = 2 ^ n := by
        obtain ⟨m, rfl⟩ : ∃ m, n = m + 1 := ⟨n - 1, by omega⟩
        rw [Nat.add_sub_cancel, Nat.pow_succ]
        omega
      have hpp : 0 < 2 ^ (n - 1) := Nat.pow_pos (by omega)
      have H : ∀ s' : List (List Int), s'.length + 2 ^ (n - 1) ≤ 1000000 → ∀ c' rest', Ctx L l c' rest' → rest'.length < rest.length → Tells T L l c' rest' s' := fun s' hs' c' rest' hc' hlt =>
        ih rest'.length (by omega) c' rest' s' rfl hc' (by have := Nat.pow_le_pow_right (show 0 < 2 by omega) (show rest'.length ≤ n - 1 by omega); omega)
      obtain ⟨rows1, a1, a2, a3, a4⟩ := visit T hL hl h s y 0 (by simp [y]) rfl (by rw [hy0]; omega) (H s (by omega))
      have hlen1 : (s ++ rows1.map nf).length + 2 ^ (n - 1) ≤ 1000000 := by
        rw [List.length_append, List.length_map]
        rw [hn] at a1
        omega
      obtain ⟨rows2, b1, b2, b3, b4⟩ := visit T hL hl h (s ++ rows1.map nf) y 1 (by simp [y]) rfl (by rw [hy1]; omega) (H _ hlen1)
      refine ⟨rows1 ++ rows2, ?_, ?_, ?_, ?_⟩
      · have e2 : Ev (fun k => echo_search.l0 T k c rest (s ++ rows1.map nf ++ rows2.map nf) y (y.length : Int) ((1 + 1 : Nat) : Int)) (s ++ (rows1 ++ rows2).map nf) := by
          refine Ev.step (Ev.pure _) fun k => ?_
          rw [echo_search.l0, if_neg (by simp [y]), List.map_append, List.append_assoc]
        refine Ev.step (a4 _ (b4 _ e2)) fun k => ?_
        rw [echo_search.f, if_neg (by omega), wrap_pred (by omega) hrl, if_pos (by omega), if_pos (by omega), wrap_pred (by omega) hp0, if_pos (by omega), if_pos (by omega), hfar, hlast, hw, Option.bind_some]
        rfl
      · rw [List.length_append]
        rw [hn] at a1 b1 ⊢
        omega
      · intro r hr
        rcases List.mem_append.1 hr with hr | hr
        · exact a2 r hr
        · exact b2 r hr
      · intro d hd hcd
        -- the greatest delay that is left is that of a missing place to an end
        have hmax : ∀ z ∈ rest, z ≤ rest[rest.length - 1] := fun z hz => by
          obtain ⟨i, hi, rfl⟩ := List.mem_iff_getElem.1 hz
          by_cases e : i = rest.length - 1
          · subst e; omega
          · exact List.pairwise_iff_getElem.1 h.srt i (rest.length - 1) hi (by omega) (by omega)
        have hd6 := hd.six hl
        have hpos : 0 < rest.count (rest[rest.length - 1]) := List.count_pos_iff.2 hfin
        have hlt : (P c).count (rest[rest.length - 1]) < (P d).count (rest[rest.length - 1]) := by
          have e := h.cnt (rest[rest.length - 1])
          have f := List.perm_iff_count.1 hd.2 (rest[rest.length - 1])
          omega
        obtain ⟨x, hx, hxc, hle⟩ := gap (rest[rest.length - 1]) _ c d rfl h.row hd.1 hcd (by omega) hlt
        have hxr := hd.1.rng x hx
        have hrow := h.row.ins hxc hxr.1 hxr.2
        have hsub := P_sub (sub_of hrow.asc hd.1.asc fun z hz => by
          rcases (ins_mem _ _ _).1 hz with hz | rfl
          · exact hcd z hz
          · exact hx)
        have hPi := fun z => (List.perm_iff_count.1 (P_ins x h.row.asc (by omega))) z
        have hin : ∀ z ∈ c, mx (x - z) (z - x) ≤ rest[rest.length - 1] := fun z hz => by
          refine hmax _ (List.count_pos_iff.1 ?_)
          have a := hsub.count_le (mx (x - z) (z - x))
          have b := hPi (mx (x - z) (z - x))
          have e := h.cnt (mx (x - z) (z - x))
          have f := List.perm_iff_count.1 hd.2 (mx (x - z) (z - x))
          have g : 0 < (own c x).count (mx (x - z) (z - x)) := List.count_pos_iff.2 (List.mem_map.2 ⟨z, hz, rfl⟩)
          rw [List.count_append] at b
          omega
        have q0 := hin 0 h.row.zero
        have qL := hin L h.row.last
        have hcase : x = rest[rest.length - 1] ∨ x = L - rest[rest.length - 1] := by
          unfold mx at q0 qL
          split at q0 <;> split at qL <;> omega
        rcases hcase with e | e
        · exact List.mem_append_left _ (a3 d hd hcd (by rw [hy0, ← e]; exact hx) (by rw [hy0, ← e]; exact hxc))
        · exact List.mem_append_right _ (b3 d hd hcd (by rw [hy1, ← e]; exact hx) (by rw [hy1, ← e]; exact hxc))
end
end Go.Proofs.Ytlbhedhbakhhlaa.Q

/- All: the normal forms of the rows that have the delays, sorted, each once. -/
namespace Go.Proofs.Ytlbhedhbakhhlaa.Q
open Go.RowKit Go.Proofs.YtlbhedhbakhhlaaW.PrintWords Go.Proofs.YtlbhedhbakhhlaaW.PrintLast Go.Proofs.YtlbhedhbakhhlaaW.PrintMore

theorem shift_k (c : List Int) (by_ : Int) (hc : c.length ≤ 1000) (hw : ∀ x ∈ c, wrap64 (x + by_) = x + by_) :
    ∀ m i k, c.length - i = m → i ≤ c.length → m < k → echo_shift.l0 k by_ ((c.take i).map (fun x => x + by_) ++ c.drop i) (c.length : Int) (i : Int) = some (c.map fun x => x + by_) := by
  intro m
  induction m with
  | zero =>
    intro i k hm hi hk
    obtain ⟨k, rfl⟩ : ∃ j, k = j + 1 := ⟨k - 1, by omega⟩
    rw [echo_shift.l0, if_neg (by omega), List.take_of_length_le (by omega), List.drop_of_length_le (by omega), List.append_nil]
  | succ m ih =>
    intro i k hm hi hk
    obtain ⟨k, rfl⟩ : ∃ j, k = j + 1 := ⟨k - 1, by omega⟩
    have hlt : i < c.length := by omega
    have hl : ((c.take i).map (fun x => x + by_) ++ c.drop i).length = c.length := by simp; omega
    have hat : rd ((c.take i).map (fun x => x + by_) ++ c.drop i) (i : Int) = c[i] := by
      rw [rd_lt _ i (by omega), List.getElem_append_right (by simp; omega)]
      simp [Nat.min_eq_left hi]
    rw [echo_shift.l0, if_pos (by omega), if_pos (by omega), if_pos (by omega), hat, hw _ (List.getElem_mem hlt), wrap_succ (by omega), Int.toNat_natCast]
    rw [← ih (i + 1) k (by omega) (by omega) (by omega)]
    congr 1
    have h1 : ((c.take i).map fun x => x + by_).length = i := by simp; omega
    rw [List.set_append_right _ _ (by omega), h1, Nat.sub_self, List.drop_eq_getElem_cons hlt, List.set_cons_zero, List.take_succ_eq_append_getElem hlt, List.map_append, List.append_assoc]
    rfl
/-- Enough rounds for the normal form of any cliffs. -/
theorem normal_k {c : List Int} (h : V c) (k : Nat) (hk : 8 ≤ k) : echo_normal.f k c = some (nf c) := by
  have h6 := h.six
  have h0 := h.pos
  have hr := h.range h0
  unfold echo_normal.f
  rw [if_pos (by omega), rd_zero, wrap_of (by omega) (by omega)]
  have e1 : echo_shift.f k c (-(at_ c 0)) = some (zero c) := by
    unfold echo_shift.f slices_Clone_int_int.f
    rw [if_pos (by omega), Option.bind_some]
    have := shift_k c (-(at_ c 0)) (by omega) (fun x hx => by have := h.small.mem hx; exact wrap_of (by omega) (by omega)) c.length 0 k (by omega) (by omega) (by omega)
    show _ = some (c.map fun x => x + -(at_ c 0))
    simpa using this
  rw [e1, Option.bind_some, mirror_f h.zero_small (by rw [zero_len]; exact h0), Option.bind_some, compare_ev _ _ (by rw [mir_len, zero_len]; omega) k (by rw [mir_len, zero_len]; omega), Option.bind_some]
  unfold nf
  split <;> rfl

theorem tell8 (r : List Int) (s : List (List Int)) (hv : V r) (hs : s.length < 1000000) : tellRow 8 r s = some (s ++ [nf r]) := by
  unfold tellRow
  rw [normal_k hv 8 (by omega), Option.bind_some, if_pos hs]
theorem tell_mono (k n : Nat) (r : List Int) (s : List (List Int)) : LeO (tellRow k r s) (tellRow (k + n) r s) := by
  induction n with
  | zero => exact LeO.refl _
  | succ n ih => exact fun x hx => tellRow.mono (k + n) r s x (ih x hx)
/-- The greatest of the delays. -/
def top (l : List Int) : Int := at_ l (l.length - 1)
theorem D_mem' (c : List Int) (n : Nat) (x : Int) : x ∈ D c n ↔ ∃ i j, j < i ∧ i < n ∧ x = at_ c i - at_ c j := by
  induction n with
  | zero => simp [D]
  | succ n ih =>
    rw [D, List.mem_append, ih]
    constructor
    · rintro (⟨i, j, h1, h2, h3⟩ | h)
      · exact ⟨i, j, h1, by omega, h3⟩
      · obtain ⟨j, hj, rfl⟩ := List.mem_map.1 h
        exact ⟨n, j, List.mem_range.1 hj, by omega, rfl⟩
    · rintro ⟨i, j, h1, h2, h3⟩
      by_cases e : i = n
      · subst e
        exact .inr (List.mem_map.2 ⟨j, List.mem_range.2 h1, h3.symm⟩)
      · exact .inl ⟨i, j, h1, by omega, h3⟩
theorem dl_mem' (c : List Int) (x : Int) : x ∈ dl c ↔ ∃ i j, j < i ∧ i < c.length ∧ x = at_ c i - at_ c j := by
  rw [← D_mem']
  exact (isortI_perm _).mem_iff
theorem srt_pair {l : List Int} (h : Srt l) : l.Pairwise (fun a b => a ≤ b) := by
  rw [List.pairwise_iff_getElem]
  intro i j hi hj hij
  rw [← at_lt, ← at_lt]
  induction j with
  | zero => omega
  | succ j ih =>
    have h1 := h (j + 1) hj (by omega)
    rw [Nat.add_sub_cancel] at h1
    by_cases e : i = j
    · subst e; exact h1
    · have := ih (by omega) (by omega)
      omega
theorem begin_ev {l : List Int} (h : C l) : ∃ rows : List (List Int), Ev (fun k => echo_begin.f (tellRow 8) k l []) (rows.map nf) ∧ rows.length ≤ 1000000 ∧
    (∀ r ∈ rows, V r ∧ at_ r 0 = 0 ∧ (P r).Perm l) ∧ (∀ d, V d → at_ d 0 = 0 → (P d).Perm l → d ∈ rows) := by
  have hl15 := h.len
  by_cases h0 : l.length = 0
  · obtain rfl := List.length_eq_zero_iff.1 h0
    have hv : V [0] := vErr_zero (by decide)
    refine ⟨[[0]], ?_, by simp, fun r hr => by rw [List.mem_singleton.1 hr]; exact ⟨hv, rfl, .refl _⟩, fun d hd hd0 hp => ?_⟩
    · refine Ev.congr (g := fun _ => some ([[0]].map nf)) (Ev.pure _) fun k => ?_
      unfold echo_begin.f
      rw [if_pos (by simp), tell8 [0] [] hv (by simp)]
      rfl
    · have h1 := P_len d
      rw [hp.length_eq] at h1
      have h2 := hd.pos
      have h3 : d.length = 1 := by
        by_cases e : d.length = 1
        · exact e
        · have := Nat.mul_le_mul (show 2 ≤ d.length by omega) (show 1 ≤ d.length - 1 by omega)
          simp at h1
          omega
      match d, h3 with
      | [x], _ =>
        have : x = 0 := hd0
        rw [this]
        simp
  · have hl0 : 0 < l.length := by omega
    have hr := h.r (l.length - 1) (by omega)
    have hsrt := srt_pair h.srt
    have hsplit : l = l.take (l.length - 1) ++ [at_ l (l.length - 1)] := by
      have := List.take_succ_eq_append_getElem (l := l) (i := l.length - 1) (by omega)
      rw [show l.length - 1 + 1 = l.length by omega, List.take_length] at this
      rw [at_lt _ _ (by omega)]
      exact this
    have hctx : Ctx (at_ l (l.length - 1)) l [0, at_ l (l.length - 1)] (l.take (l.length - 1)) := by
      refine ⟨⟨by simp; omega, by simp, by simp, fun x hx => ?_⟩, fun y => ?_, hsrt.sublist (List.take_sublist _ _)⟩
      · simp at hx
        omega
      · have e := congrArg (List.count y) hsplit
        rw [List.count_append] at e
        simp only [P, List.map_cons, List.map_nil, List.append_nil, Int.sub_zero]
        omega
    have hpw : 2 ^ (l.take (l.length - 1)).length ≤ 2 ^ 15 := Nat.pow_le_pow_right (by omega) (by rw [List.length_take]; omega)
    obtain ⟨rows, r1, r2, r3, r4⟩ := hunt (tellRow 8) tell8 (L := at_ l (l.length - 1)) (by omega) hl15 (fun y hy => by
      obtain ⟨i, hi, rfl⟩ := List.mem_iff_getElem.1 hy
      rw [← at_lt]
      exact h.r i hi) _ [0, at_ l (l.length - 1)] (l.take (l.length - 1)) [] rfl hctx (by simp at hpw ⊢; omega)
    refine ⟨rows, ?_, by omega, fun r hr' => ?_, fun d hd hd0 hp => ?_⟩
    · refine Ev.congr (by simpa using r1) fun k => ?_
      unfold echo_begin.f
      rw [if_neg (by omega), wrap_pred (by omega) hl0, if_pos (by omega), if_pos (by omega), if_pos (by omega), rd_at, Int.toNat_natCast]
      cases echo_search.f (tellRow 8) k [0, at_ l (l.length - 1)] (l.take (l.length - 1)) [] <;> rfl
    · have hg := r3 r hr'
      exact ⟨hg.1.v (by omega) (hg.six hl15), hg.1.at0, hg.2⟩
    · -- a row that begins at 0 and has the delays ends at the greatest
      have hdl : dl d = l := by
        rw [dl_P]
        exact (isortI_uniq hp.symm hsrt).symm
      have hd1 : 1 < d.length := by
        by_cases e : d.length = 1
        · have h1 := P_len d
          rw [hp.length_eq, e] at h1
          omega
        · have := hd.pos
          omega
      have hin : at_ d (d.length - 1) ∈ l := by
        rw [← hdl, dl_mem']
        exact ⟨d.length - 1, 0, by omega, by omega, by omega⟩
      have hmax : ∀ z ∈ l, z ≤ at_ l (l.length - 1) := fun z hz => by
        obtain ⟨i, hi, rfl⟩ := List.mem_iff_getElem.1 hz
        by_cases e : i = l.length - 1
        · subst e
          rw [← at_lt]
          omega
        · have := List.pairwise_iff_getElem.1 hsrt i (l.length - 1) hi (by omega) (by omega)
          rw [at_lt _ _ (by omega)]
          exact this
      have hL : at_ l (l.length - 1) ∈ dl d := by
        rw [hdl, at_lt _ _ (by omega)]
        exact List.getElem_mem _
      obtain ⟨i, j, hji, hi, he⟩ := (dl_mem' d _).1 hL
      have q1 := hd.le (i := 0) (j := j) (by omega) (by omega)
      have q2 := hd.le (i := i) (j := d.length - 1) (by omega) (by omega)
      have q3 := hmax _ hin
      have hlast : at_ d (d.length - 1) = at_ l (l.length - 1) := by omega
      have hg : Good (at_ l (l.length - 1)) l d := by
       refine ⟨⟨hd.pairwise, ?_, ?_, fun x hx => ?_⟩, hp⟩
       · rw [← hd0, at_lt _ _ (by omega)]
         exact List.getElem_mem _
       · rw [← hlast, at_lt _ _ (by omega)]
         exact List.getElem_mem _
       · obtain ⟨i, hi, rfl⟩ := List.mem_iff_getElem.1 hx
         rw [← at_lt]
         have a := hd.le (i := 0) (j := i) (by omega) hi
         have b := hd.le (i := i) (j := d.length - 1) (by omega) (by omega)
         omega
      refine r4 d hg fun x hx => ?_
      rcases List.mem_cons.1 hx with rfl | hx
      · exact hg.1.zero
      · rw [List.mem_singleton.1 hx]
        exact hg.1.last
end Go.Proofs.Ytlbhedhbakhhlaa.Q

/- All: its result, told by what is in it. -/
namespace Go.Proofs.Ytlbhedhbakhhlaa.Q
open Go.RowKit Go.Proofs.YtlbhedhbakhhlaaW.PrintWords Go.Proofs.YtlbhedhbakhhlaaW.PrintLast Go.Proofs.YtlbhedhbakhhlaaW.PrintMore

theorem every_ev {l : List Int} (h : C l) : ∃ rows : List (List Int), Ev (fun k => echo_every.f k l) (Lib.compact (sortBy leL (rows.map nf))) ∧ rows.length ≤ 1000000 ∧
    (∀ r ∈ rows, V r ∧ at_ r 0 = 0 ∧ (P r).Perm l) ∧ (∀ d, V d → at_ d 0 = 0 → (P d).Perm l → d ∈ rows) := by
  obtain ⟨rows, ⟨K, hK⟩, hlen, h1, h2⟩ := begin_ev h
  refine ⟨rows, ⟨K + 8, fun k hk => ?_⟩, hlen, h1, h2⟩
  have e1 := hK k (by omega)
  have e2 : echo_begin.f (tellRow k) k l [] = some (rows.map nf) := by
    refine echo_begin.monoT (tellRow 8) (tellRow k) (fun r s => ?_) l [] k _ e1
    obtain ⟨n, rfl⟩ : ∃ n, k = 8 + n := ⟨k - 8, by omega⟩
    exact tell_mono 8 n r s
  show echo_every.f k l = _
  unfold echo_every.f
  rw [e2, Option.bind_some, if_pos (by rw [List.length_map]; exact hlen)]
/-- The normal forms that have the delays l. -/
structure Al (l : List Int) (A : List (List Int)) : Prop where
  mem : ∀ x, x ∈ A ↔ ∃ d, V d ∧ at_ d 0 = 0 ∧ (P d).Perm l ∧ x = nf d
  nodup : A.Nodup
  sorted : A.Pairwise fun a b => leL a b = true
  len : A.length ≤ 1000000
theorem zero_at0 {c : List Int} (h : V c) : at_ (zero c) 0 = 0 := by
  rw [zero_at h.pos]
  omega
theorem zero_id {c : List Int} (h0 : at_ c 0 = 0) : zero c = c := by
  unfold zero
  rw [h0]
  simp
theorem nf_zero {c : List Int} (h : V c) : nf (zero c) = nf c := by
  unfold nf
  rw [zero_id (zero_at0 h)]
theorem V.zero {c : List Int} (h : V c) : V (zero c) := by
  have h0 := h.pos
  have hl := zero_len c
  refine V.of_lt (by omega) (by rw [hl]; exact h.six) (fun i hi => ?_) (fun i hi => ?_) ?_
  · rw [zero_at (by omega)]
    have q1 := h.le (i := 0) (j := i) (by omega) (by omega)
    have q2 := h.le (i := i) (j := c.length - 1) (by omega) (by omega)
    have q3 := h.span
    omega
  · rw [zero_at (by omega), zero_at (by omega)]
    have := h.lt (i := i) (j := i + 1) (by omega) (by omega)
    omega
  · rw [zero_at (by omega), zero_at (by omega), hl]
    have := h.span
    omega
theorem perm_dl {c l : List Int} (h : (P c).Perm l) (hs : Srt l) : dl c = l := by
  rw [dl_P]
  exact (isortI_uniq h.symm (srt_pair hs)).symm
theorem dl_perm (c : List Int) : (P c).Perm (dl c) := by
  rw [dl_P]
  exact (isortI_perm _).symm
theorem All_ev {l : List Int} (h : C l) : ∃ A : List (List Int), Ev (fun k => echo_All.f k l) (A, 0) ∧ Ev (fun k => echo_every.f k l) A ∧ Al l A := by
  obtain ⟨rows, e, hlen, h1, h2⟩ := every_ev h
  have hsort := sortBy_sorted leL_trans leL_total (rows.map nf)
  refine ⟨_, ?_, e, ⟨fun x => ?_, ?_, ?_, ?_⟩⟩
  · unfold echo_All.f
    refine Ev.bind (claimed_ev l) ?_
    simp only [cErr_of h, if_true]
    exact Ev.bind e (Ev.pure _)
  · rw [compact_mem, (sortBy_perm leL _).mem_iff, List.mem_map]
    constructor
    · rintro ⟨r, hr, rfl⟩
      obtain ⟨a, b, c⟩ := h1 r hr
      exact ⟨r, a, b, c, rfl⟩
    · rintro ⟨d, a, b, c, rfl⟩
      exact ⟨d, h2 d a b c, rfl⟩
  · exact compact_nodup (le := fun a b => leL a b = true) leL_antisymm _ hsort
  · exact hsort.sublist (compact_sub _)
  · have := (compact_sub (sortBy leL (rows.map nf))).length_le
    have e := (sortBy_perm leL (rows.map nf)).length_eq
    rw [List.length_map] at e
    omega
theorem V.C {c : List Int} (h : V c) : C (dl c) := by
  have hl : (dl c).length = (P c).length := (dl_perm c).length_eq.symm
  have h6 := h.six
  have h0 := h.pos
  have hp := P_len c
  refine ⟨?_, ?_, ?_⟩
  · unfold pairsOk
    have : c.length = 1 ∨ c.length = 2 ∨ c.length = 3 ∨ c.length = 4 ∨ c.length = 5 ∨ c.length = 6 := by omega
    rcases this with e | e | e | e | e | e <;> rw [e] at hp <;> omega
  · intro i hi h1
    have := List.pairwise_iff_getElem.1 (isortI_sorted (D c c.length)) (i - 1) i (by show _ < (dl c).length; omega) hi (by omega)
    rw [at_lt _ _ (by omega), at_lt _ _ hi]
    exact this
  · intro i hi
    have hm : at_ (dl c) i ∈ dl c := by rw [at_lt _ _ hi]; exact List.getElem_mem _
    obtain ⟨a, b, hba, ha, e⟩ := (dl_mem' c _).1 hm
    have q1 := h.lt hba ha
    have q2 := h.le (i := a) (j := c.length - 1) (by omega) (by omega)
    have q3 := h.le (i := 0) (j := b) (by omega) (by omega)
    have q4 := h.span
    omega
end Go.Proofs.Ytlbhedhbakhhlaa.Q

/- The plain law of EchoAmong: the normal form of any cliffs is among all normal cliffs that have their delays. -/
namespace Go.Proofs.Ytlbhedhbakhhlaa.Pure
open Go.RowKit Go.Proofs.Ytlbhedhbakhhlaa.Q

theorem among_l0 (n : List Int) (A : List (List Int)) (hA : A.length ≤ 1000000) (hn : ∀ x ∈ A, x.length ≤ 1000) : ∀ m i, A.length - i = m → i ≤ A.length → n ∈ A.drop i → Ev (fun k => diaphonelaw05_EchoAmong.l0 k n A 0 (i : Int)) true := by
  intro m
  induction m with
  | zero =>
    intro i hm hi hin
    rw [List.drop_of_length_le (by omega)] at hin
    cases hin
  | succ m ih =>
    intro i hm hi hin
    have hlt : i < A.length := by omega
    rw [List.drop_eq_getElem_cons hlt] at hin
    have hrd : rd_L1 A (i : Int) = A[i] := by
      show A.getD i [] = _
      rw [List.getD_eq_getElem?_getD, List.getElem?_eq_getElem hlt]
      rfl
    by_cases e : A[i] = n
    · refine Ev.step (g := fun k => (diaphoneref05_SameInts.f k A[i] n).bind fun t117 => if t117 = true then ((diaphonelaw05_sane.f k).bind fun t118 => (some t118)) else (diaphonelaw05_EchoAmong.l0 k n A 0 (wrap64 ((i : Int) + 1)))) ?_ fun k => ?_
      · refine Ev.bind (same_ev _ _ (by have := hn _ (List.getElem_mem hlt); omega)) ?_
        simp only [decide_eq_true e, if_true]
        exact sane_end
      · rw [diaphonelaw05_EchoAmong.l0, if_pos (by omega), if_pos (by omega), hrd]
        rfl
    · have hin' : n ∈ A.drop (i + 1) := by
        rcases List.mem_cons.1 hin with h | h
        · exact absurd h.symm e
        · exact h
      refine Ev.step (g := fun k => (diaphoneref05_SameInts.f k A[i] n).bind fun t117 => if t117 = true then ((diaphonelaw05_sane.f k).bind fun t118 => (some t118)) else (diaphonelaw05_EchoAmong.l0 k n A 0 ((i + 1 : Nat) : Int))) ?_ fun k => ?_
      · refine Ev.bind (same_ev _ _ (by have := hn _ (List.getElem_mem hlt); omega)) ?_
        simp only [decide_eq_false e, Bool.false_eq_true, if_false]
        exact ih (i + 1) (by omega) (by omega) hin'
      · rw [diaphonelaw05_EchoAmong.l0, if_pos (by omega), if_pos (by omega), hrd, wrap_succ (by omega)]
        rfl
theorem EchoAmong : diaphonelaw05_EchoAmong.Pure := by
  intro c _ _ _
  refine Ev.ex (r := true) ?_
  unfold diaphonelaw05_EchoAmong.f long1.f
  refine Ev.some_bind ?_
  by_cases hl : 100 < c.length
  · simp only [decide_eq_true hl, if_true]
    exact sane_end
  · simp only [decide_eq_false hl, Bool.false_eq_true, if_false]
    refine Ev.bind (Normal_ev c) ?_
    refine Ev.bind (Delays_ev c) ?_
    by_cases h : vErr c = 0
    · have hv := vErr_zero h
      simp only [h, if_true, bne_self_eq_false]
      obtain ⟨A, hA, _, al⟩ := All_ev hv.C
      refine Ev.step (g := fun k => (echo_All.f k (dl c)).bind fun bt112 => (diaphonelaw05_EchoAmong.l0 k (nf c) bt112.1 bt112.2 0)) (Ev.bind hA ?_) fun k => by rw [diaphonelaw05_EchoAmong.j0, if_neg (by decide)]
      refine among_l0 (nf c) A al.len (fun x hx => ?_) _ 0 rfl (by omega) ?_
      · obtain ⟨d, hd, _, _, rfl⟩ := (al.mem x).1 hx
        rw [nf_len]
        have := hd.six
        omega
      · rw [List.drop_zero, al.mem]
        refine ⟨zero c, hv.zero, zero_at0 hv, ?_, ?_⟩
        · exact (P_shift _ c ▸ dl_perm c)
        · exact (nf_zero hv).symm
    · simp only [h, if_false]
      refine Ev.step (g := fun k => (diaphonelaw05_sane.f k).bind fun t111 => (some t111)) sane_end fun k => ?_
      rw [diaphonelaw05_EchoAmong.j0, if_pos rfl, if_pos rfl]
end Go.Proofs.Ytlbhedhbakhhlaa.Pure

namespace Go.Proofs.Ytlbhedhbakhhlaa.echoAmong
open Go.ChangeShapes Go.WideShapes Go.ChangeAt Go.RowKit
open Go.ChangeMaps (open_string shut_string)
set_option linter.unusedVariables false
theorem own : ownKnob Try.prog.godebug = none := by kernel_rfl
theorem laidOut : laidOutB Try.prog = true := by kernel_rfl
def IsRow (k : IntKind) (w : World) (a : Option Addr) (len cap : Nat) (zs : List Int) : Prop :=
  (a = none ∧ len = 0 ∧ cap = 0 ∧ zs = []) ∨
  ∃ x, a = some x ∧ len ≤ cap ∧ cap ≤ maxLen ∧ zs.length = cap ∧ (∀ i, i < zs.length → w.cell? (x.add i) = some (.int k (zs.getD i 0))) ∧ ∀ n ∈ zs, (Lit.int k n).wf = true
set_option maxRecDepth 100000 in
theorem lifted (os : Os) (started : os.Started) (H : Type) (enc : TypeId × Value → H) :
    ReturnsInHanded {} Try.checked os 5 .any (Rows.echoAmongSpec.pre6 enc Try.prog Try.f5 Rows.echoAmongRow.domain false) (Rows.echoAmongSpec.post enc Try.prog Try.f5 false true false false) := by
  refine returnsInHanded_of_change_sized (C := Try.checked) own started (by kernel_rfl) Try.func5
    (ChangeSpec.witness6 (enc := enc) (C := Try.checked) false ⟨#[], #[.slice none 0 0], []⟩ 8 (by kernel_rfl) (by kernel_rfl) (by kernel_rfl) (by kernel_rfl)) ?_
  intro W base args ds gs before hval0 hW hcnd hsz0 _
  have hsz : (DataW.weightsEach Try.prog (Try.f5.params.toList ++ Rows.echoAmongSpec.plain.varTypes Try.prog) (ds ++ gs)).all (· ≤ reachBytes) = true := hsz0
  have hval : ∀ (j : Nat) t v, Try.f5.params[j]? = some t → args[j]? = some v → Value.okWide Try.prog W .any base t v := hval0
  have hW' := hW
  obtain ⟨p, q, hA0, hV, rfl, hfz, hnd⟩ := hW
  have hA : DataW.TrodAll enc Try.prog W 0 (fun _ => true) true Try.f5.params.toList args.toList ds p := hA0
  rw [Try.params5] at hA hval hsz
  obtain ⟨v0, vs0, d0, ds0, p0, q0, hargs, rfl, rfl, h0, r0⟩ := trodAll_cons hA
  obtain ⟨rfl, rfl, rfl⟩ := trodAll_nil r0
  obtain rfl : args = #[v0] := by cases args; simp_all
  obtain ⟨rfl, rfl⟩ := trodVars_none hV
  obtain ⟨a0, len0, cap0, rfl⟩ := okWide_slice Try.underlying22 (hval 0 22 v0 rfl rfl)
  have k0 := h0
  have lt0 : ∀ x ∈ p0, x.block < W.heap.size := by obtain ⟨m, hm⟩ := k0; exact DataW.trod_lt m _ _ _ hm
  obtain ⟨z0, w0⟩ : ∃ zs, IsRow .i64 W a0 len0 cap0 zs := by
    obtain ⟨fuel, hf⟩ := h0
    rcases open_ints Try.underlying22 Try.underlying3 (by kernel_rfl) hf with ⟨hcs, _⟩ | ⟨x, l, c, zs, hcs, _, hl, hm, hz, _, hcell, hwz⟩
    · simp [Value.cells] at hcs
      obtain ⟨rfl, rfl, rfl⟩ := hcs
      exact ⟨[], .inl ⟨rfl, rfl, rfl, rfl⟩⟩
    · simp [Value.cells] at hcs
      obtain ⟨rfl, rfl, rfl⟩ := hcs
      exact ⟨zs, .inr ⟨_, rfl, hl, hm, by simpa using hz, hcell, hwz⟩⟩
  have y0 : len0 * 8 ≤ 140737488351232 := Go.Proofs.YtlbhedhbakhhlaaW.PrintWords.sized_ints hsz (j := 0) (t := 22) rfl rfl Try.underlying22 Try.underlying3 (by kernel_rfl) (by kernel_rfl) h0
  clear hA0 hval0 hsz0 hsz
  refine (Q.diaphonelaw05_EchoAmong.walk Pure.EchoAmong a0 len0 cap0 z0 W w0 y0).mono fun e W' ⟨he, bel⟩ => ?_
  subst he
  exact ⟨_, rfl, _, _, _, [], _, [], hW', trodAll_mk1 (shut_bool Try.underlying4 _), (trodAll_cons_mk (Below.trod laidOut (by kernel_rfl) (of_decide_eq_true (by kernel_rfl)) k0 bel lt0) trodAll_mk0), rfl, bel.frame _, fun h => by cases h⟩
theorem over : Rows.echoAmongRow.holds Try.pinned (OpenSpec.ofChange Rows.echoAmongSpec) :=
  OpenClaim.holds_of_wide 5 Try.f5 rfl rfl rfl rfl rfl rfl rfl ⟨rfl, rfl, rfl, rfl, rfl⟩ rfl rfl rfl rfl rfl (by kernel_rfl) Try.func5 (by kernel_rfl)
    (of_decide_eq_true (by kernel_rfl)) (by unfold Func.isWrapper; first | (rw [if_pos (by decide +kernel)]; kernel_rfl) | (rw [if_neg (by decide +kernel)]; exact ⟨rfl, rfl⟩))
    (fun os started H enc _ => lifted os started H enc)
theorem proved : Rows.EchoAmongSaid := over
end Go.Proofs.Ytlbhedhbakhhlaa.echoAmong
namespace Go.Proofs.Ytlbhedhbakhhlaa
/-- The row, under a short name, for the claim. -/
theorem echoAmong_holds : Rows.EchoAmongSaid := echoAmong.proved
end Go.Proofs.Ytlbhedhbakhhlaa

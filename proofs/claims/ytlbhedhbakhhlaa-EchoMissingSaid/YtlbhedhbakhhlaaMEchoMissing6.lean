/- EchoMissing: joined texts (6 of 6) of the proof that the given statement of this claim holds, for every input, without any condition of its own. -/
import Derived.Test.YtlbhedhbakhhlaaMEchoMissing2
import Derived.Test.YtlbhedhbakhhlaaMEchoMissing5
import Derived.Test.YtlbhedhbakhhlaaMEchoMissing3
import Derived.Test.YtlbhedhbakhhlaaMEchoMissing4
import Derived.Lib.SlicesCompact
import Derived.KernelRfl
import Derived.Test.YtlbhedhbakhhlaaRows
import Derived.WalkKit
import Derived.ProofKit
import Derived.OpenShut
import Derived.ShutString
import Derived.ChangeOld
import Derived.Below
import Derived.SizedLaws
import Derived.Test.YtlbhedhbakhhlaaMEchoMissing1
set_option linter.unusedVariables false
set_option linter.unusedSimpArgs false

namespace Go.Proofs.Ytlbhedhbakhhlaa.Q
open Go.RowKit Go.Proofs.YtlbhedhbakhhlaaW.PrintWords Go.Proofs.YtlbhedhbakhhlaaW.PrintLast Go.Proofs.YtlbhedhbakhhlaaW.PrintMore
attribute [local go_sem] max2_int min2_int max_two min_two max_three min_three max_four min_four   -- for this text's walks alone
set_option linter.unusedVariables false
set_option linter.unusedSimpArgs false

/-! ### diaphonelaw05_EchoMissing: function 9 -/
mutual
def diaphonelaw05_EchoMissing.j0 : Nat → List Int → List Int → Int → Bool → Option (Bool)
  | 0, _, _, _, _ => none
  | k + 1, x0, x3, x4, x33 => if x33 = true then (some false) else ((echo_Delays.f k x0).bind fun bt112 => (if x4 = 0 then (diaphonelaw05_EchoMissing.l0 k x0 x3 bt112.1 bt112.2 0 0) else ((diaphonelaw05_sane.f k).bind fun t116 => (some t116))))
def diaphonelaw05_EchoMissing.l0 : Nat → List Int → List Int → List Int → Int → Int → Int → Option (Bool)
  | 0, _, _, _, _, _, _ => none
  | k + 1, x0, x3, x7, x8, x9, x10 => if x10 < (x7.length : Int) then (if x10 = 0 then (diaphonelaw05_EchoMissing.l0 k x0 x3 x7 x8 (wrap64 (x9 + 1)) (wrap64 (x10 + 1))) else (if 0 ≤ x10 then (if 0 ≤ (wrap64 (x10 - 1)) then (if (wrap64 (x10 - 1)) < (x7.length : Int) then (if (rd x7 x10) = (rd x7 (wrap64 (x10 - 1))) then (diaphonelaw05_EchoMissing.l0 k x0 x3 x7 x8 x9 (wrap64 (x10 + 1))) else (diaphonelaw05_EchoMissing.l0 k x0 x3 x7 x8 (wrap64 (x9 + 1)) (wrap64 (x10 + 1)))) else (none)) else (none)) else (none))) else (if x8 = 0 then (if 0 ≤ (wrap64 ((x0.length : Int) - 1)) then (if (wrap64 ((x0.length : Int) - 1)) < (x0.length : Int) then (if 0 < (x0.length : Int) then (if (wrap64 (x9 + (x3.length : Int))) = (wrap64 ((rd x0 (wrap64 ((x0.length : Int) - 1))) - (rd x0 0))) then ((diaphonelaw05_sane.f k).bind fun t121 => (some t121)) else (some false)) else (none)) else (none)) else (none)) else (some false))
end
def diaphonelaw05_EchoMissing.f (k : Nat) (l0 : List Int) : Option (Bool) := (long1.f l0).bind fun t101 => (if t101 = true then ((diaphonelaw05_sane.f k).bind fun t102 => (some t102)) else ((echo_Missing.f k l0).bind fun bt103 => ((diaphoneref05_Missing.f k l0).bind fun bt107 => ((diaphoneref05_SameInts.f k bt103.1 bt107.1).bind fun t111 => (if t111 = true then (diaphonelaw05_EchoMissing.j0 k l0 bt103.1 bt103.2 (bt103.2 != bt107.2)) else (diaphonelaw05_EchoMissing.j0 k l0 bt103.1 bt103.2 true))))))
theorem diaphonelaw05_EchoMissing.mono_l : ∀ k, (∀ y0 y1 y2 y3, LeO (diaphonelaw05_EchoMissing.j0 k y0 y1 y2 y3) (diaphonelaw05_EchoMissing.j0 (k + 1) y0 y1 y2 y3)) ∧ (∀ y0 y1 y2 y3 y4 y5, LeO (diaphonelaw05_EchoMissing.l0 k y0 y1 y2 y3 y4 y5) (diaphonelaw05_EchoMissing.l0 (k + 1) y0 y1 y2 y3 y4 y5))
  | 0 => ⟨fun _ _ _ _ r h => by simp [diaphonelaw05_EchoMissing.j0] at h, fun _ _ _ _ _ _ r h => by simp [diaphonelaw05_EchoMissing.l0] at h⟩
  | k + 1 => by
    obtain ⟨ih0, ih1⟩ := diaphonelaw05_EchoMissing.mono_l k
    refine ⟨?_, ?_⟩
    · intro y0 y1 y2 y3
      unfold diaphonelaw05_EchoMissing.j0
      repeat' first
      | (with_reducible exact ih0 _ _ _ _)
      | (with_reducible exact ih1 _ _ _ _ _ _)
      | (with_reducible exact diaphonelaw05_sane.mono _)
      | (with_reducible exact diaphoneref05_Missing.mono _ _)
      | (with_reducible exact diaphoneref05_SameInts.mono _ _ _)
      | (with_reducible exact echo_Delays.mono _ _)
      | (with_reducible exact echo_Missing.mono _ _)
      | (with_reducible exact LeO.refl _)
      | (with_reducible exact LeO.none _)
      | (with_reducible refine LeO.ite ?_ ?_)
      | (with_reducible refine LeO.bind ?_ (fun _ => ?_))
      | exact ih0 _ _ _ _
      | exact ih1 _ _ _ _ _ _
      | exact diaphonelaw05_sane.mono _
      | exact diaphoneref05_Missing.mono _ _
      | exact diaphoneref05_SameInts.mono _ _ _
      | exact echo_Delays.mono _ _
      | exact echo_Missing.mono _ _
      | exact LeO.none _
      | refine LeO.ite ?_ ?_
      | refine LeO.bind ?_ (fun _ => ?_)
    · intro y0 y1 y2 y3 y4 y5
      unfold diaphonelaw05_EchoMissing.l0
      repeat' first
      | (with_reducible exact ih0 _ _ _ _)
      | (with_reducible exact ih1 _ _ _ _ _ _)
      | (with_reducible exact diaphonelaw05_sane.mono _)
      | (with_reducible exact diaphoneref05_Missing.mono _ _)
      | (with_reducible exact diaphoneref05_SameInts.mono _ _ _)
      | (with_reducible exact echo_Delays.mono _ _)
      | (with_reducible exact echo_Missing.mono _ _)
      | (with_reducible exact LeO.refl _)
      | (with_reducible exact LeO.none _)
      | (with_reducible refine LeO.ite ?_ ?_)
      | (with_reducible refine LeO.bind ?_ (fun _ => ?_))
      | exact ih0 _ _ _ _
      | exact ih1 _ _ _ _ _ _
      | exact diaphonelaw05_sane.mono _
      | exact diaphoneref05_Missing.mono _ _
      | exact diaphoneref05_SameInts.mono _ _ _
      | exact echo_Delays.mono _ _
      | exact echo_Missing.mono _ _
      | exact LeO.none _
      | refine LeO.ite ?_ ?_
      | refine LeO.bind ?_ (fun _ => ?_)
theorem diaphonelaw05_EchoMissing.mono : ∀ a0 k, LeO (diaphonelaw05_EchoMissing.f k a0) (diaphonelaw05_EchoMissing.f (k + 1) a0) := by
  intro a0 k
  obtain ⟨ih0, ih1⟩ := diaphonelaw05_EchoMissing.mono_l k
  unfold diaphonelaw05_EchoMissing.f
  repeat' first
      | (with_reducible exact ih0 _ _ _ _)
      | (with_reducible exact ih1 _ _ _ _ _ _)
      | (with_reducible exact diaphonelaw05_sane.mono _)
      | (with_reducible exact diaphoneref05_Missing.mono _ _)
      | (with_reducible exact diaphoneref05_SameInts.mono _ _ _)
      | (with_reducible exact echo_Delays.mono _ _)
      | (with_reducible exact echo_Missing.mono _ _)
      | (with_reducible exact LeO.refl _)
      | (with_reducible exact LeO.none _)
      | (with_reducible refine LeO.ite ?_ ?_)
      | (with_reducible refine LeO.bind ?_ (fun _ => ?_))
      | exact ih0 _ _ _ _
      | exact ih1 _ _ _ _ _ _
      | exact diaphonelaw05_sane.mono _
      | exact diaphoneref05_Missing.mono _ _
      | exact diaphoneref05_SameInts.mono _ _ _
      | exact echo_Delays.mono _ _
      | exact echo_Missing.mono _ _
      | exact LeO.none _
      | refine LeO.ite ?_ ?_
      | refine LeO.bind ?_ (fun _ => ?_)
def diaphonelaw05_EchoMissing.T14 : Bool × List (List Nat × List Nat) := (true, [([], []), ([0], [0]), ([1], [1]), ([2], [2]), ([2], [2]), ([3, 4, 2], [2, 3, 4]), ([5, 2], [2, 5]), ([2], [2]), ([2], [2]), ([8, 2], [2, 8]), ([7, 9, 2], [2, 7, 9]), ([10, 2], [2, 10]), ([6, 11, 2], [2, 6, 11]), ([2, 12], [2, 12])])
def diaphonelaw05_EchoMissing.B14 : List Nat := [0, 1, 3, 7, 7, 31, 63, 7, 7, 263, 903, 1927, 4095, 8191]
theorem diaphonelaw05_EchoMissing.tab14 : rtab .any (opsOf Try.f9 14) = diaphonelaw05_EchoMissing.T14 := by kernel_rfl
theorem diaphonelaw05_EchoMissing.bits14 : waitsOk diaphonelaw05_EchoMissing.T14.2 diaphonelaw05_EchoMissing.B14 = true := by kernel_rfl
def diaphonelaw05_EchoMissing.T16 : Bool × List (List Nat × List Nat) := (true, [([], []), ([0], [0]), ([1], [1]), ([2], [2]), ([2], [2]), ([4, 2], [2, 4]), ([3, 5, 2], [2, 3, 5]), ([2], [2]), ([2], [2]), ([8, 2], [2, 8]), ([9, 2], [2, 9]), ([7, 10, 2], [2, 7, 10]), ([11, 2], [2, 11]), ([2], [2]), ([13, 2], [2, 13]), ([14, 2], [2, 14]), ([12, 15, 2], [2, 12, 15]), ([6, 16, 2], [2, 6, 16]), ([2, 17], [2, 17]), ([18, 2], [18]), ([19, 19], [19]), ([19, 20], [19, 20]), ([21, 20, 0, 1, 2, 3, 4, 5, 6, 7, 8, 9, 10, 11, 12, 13, 14, 15, 16, 17, 18, 19, 20, 21], [21])])
def diaphonelaw05_EchoMissing.B16 : List Nat := [0, 1, 3, 7, 7, 23, 63, 7, 7, 263, 775, 1927, 3975, 7, 8199, 24583, 65415, 131071, 262143, 524287, 1048575, 2097151, 4194303]
theorem diaphonelaw05_EchoMissing.tab16 : rtab .any (opsOf Try.f9 16) = diaphonelaw05_EchoMissing.T16 := by kernel_rfl
theorem diaphonelaw05_EchoMissing.bits16 : waitsOk diaphonelaw05_EchoMissing.T16.2 diaphonelaw05_EchoMissing.B16 = true := by kernel_rfl
set_option maxHeartbeats 8000000 in
set_option maxRecDepth 100000 in
theorem diaphonelaw05_EchoMissing.calls (k : Nat) (A0 : Option Addr) (c0 : Nat) (l0 : List Int) (r : Bool) (hrt : r = true) (w : World) (hr0 : Kd.C (Kd.int .i64) w A0 l0.length l0) (hc0 : l0.length ≤ c0) (h : diaphonelaw05_EchoMissing.f k l0 = some r) :
    Calls Try.prog 9 #[.slice A0 l0.length c0] w fun e w' => e = .returned (.bool r) ∧ Below w.heap.size w w' := by
  have HRT := Aside0.mk hrt
  clear hrt
  have HR0 := Aside0.mk hr0
  have HC0 := Aside0.mk hc0
  clear hr0 hc0
  have HB := Aside0.mk (Below.refl w.heap.size w)
  have H : ((long1.f l0).bind fun t101 => (if t101 = true then ((diaphonelaw05_sane.f k).bind fun t102 => (some t102)) else ((echo_Missing.f k l0).bind fun bt103 => ((diaphoneref05_Missing.f k l0).bind fun bt107 => ((diaphoneref05_SameInts.f k bt103.1 bt107.1).bind fun t111 => (if t111 = true then (diaphonelaw05_EchoMissing.j0 k l0 bt103.1 bt103.2 (bt103.2 != bt107.2)) else (diaphonelaw05_EchoMissing.j0 k l0 bt103.1 bt103.2 true))))))) = some r := h
  clear h
  replace H := Option.bind_eq_some_iff.mp H
  obtain ⟨t101, A20, H⟩ := H
  replace H : (if t101 = true then ((diaphonelaw05_sane.f k).bind fun t102 => (some t102)) else ((echo_Missing.f k l0).bind fun bt103 => ((diaphoneref05_Missing.f k l0).bind fun bt107 => ((diaphoneref05_SameInts.f k bt103.1 bt107.1).bind fun t111 => (if t111 = true then (diaphonelaw05_EchoMissing.j0 k l0 bt103.1 bt103.2 (bt103.2 != bt107.2)) else (diaphonelaw05_EchoMissing.j0 k l0 bt103.1 bt103.2 true)))))) = some r := H
  have A2 := Aside0.mk A20
  clear A20
  by_cases c3 : t101 = true
  · subst c3
    have H1 : ((diaphonelaw05_sane.f k).bind fun t102 => (some t102)) = some r := by rw [if_pos rfl] at H; exact H
    clear H
    have H := H1
    clear H1
    replace H := Option.bind_eq_some_iff.mp H
    obtain ⟨t102, A40, H⟩ := H
    replace H : (some t102) = some r := H
    have A4 := Aside0.mk A40
    clear A40
    obtain rfl := Option.some.inj H
    go_enter Try.func9, Try.ntmps9
    go_wp2_with (first | (go_at_call 15; (with_reducible refine (long1.calls _ _ l0 true _ ?side1 ?side2 A2.out).mono ?_); (case side1 => repeat (first | exact HR0.out | (with_reducible refine Kd.C_alloc ?_ _) | (with_reducible refine Kd.C_drewN ?_ _) | (with_reducible refine Kd.C_drew ?_))); (case side2 => exact HC0.out); rintro e w5 ⟨rfl, hb⟩; skip; have n0_ := Aside0.mk (below_step (by repeat (first | (with_reducible first | exact HB.out | apply below_alloc | apply pw_below_drewN | apply below_drew1) | exact HB.out)) hb); clear HB; have HB := n0_; clear n0_; (try clear hb); (try clear hb2); (try clear hk); (try clear hi)) | ((with_reducible refine gate_callee (f := 16) rfl ?_); refine goesL_ (some 14) rfl rfl Try.func16 (by kernel_rfl) rfl #[] rfl (by (try simp only [List.map_toArray, List.map_cons, List.map_nil]); first | done | rfl | (simp only [List.length_drop, List.length_take]; rfl)) ?_; (with_reducible refine (diaphonelaw05_sane.calls k  t102 _ A4.out).mono ?_); rintro e w6 ⟨rfl, hb⟩; refine ⟨_, rfl, ?_⟩; have n0_ := Aside0.mk (below_step (by repeat (first | (with_reducible first | exact HB.out | apply below_alloc | apply pw_below_drewN | apply below_drew1) | exact HB.out)) hb); clear HB; have HB := n0_; clear n0_; (try clear hb); (try clear hb2); (try clear hk); (try clear hi)))
    go_ret
    exact ⟨by first | rfl | (simp [errW_none, errW_some] <;> rfl) | (simp [*, errW_none, errW_some] <;> rfl), by repeat (first | (with_reducible first | exact HB.out | apply below_alloc | apply pw_below_drewN | apply below_drew1) | exact HB.out)⟩
  · replace c3 := Bool.eq_false_iff.mpr c3
    subst c3
    have H1 : ((echo_Missing.f k l0).bind fun bt103 => ((diaphoneref05_Missing.f k l0).bind fun bt107 => ((diaphoneref05_SameInts.f k bt103.1 bt107.1).bind fun t111 => (if t111 = true then (diaphonelaw05_EchoMissing.j0 k l0 bt103.1 bt103.2 (bt103.2 != bt107.2)) else (diaphonelaw05_EchoMissing.j0 k l0 bt103.1 bt103.2 true))))) = some r := by rw [if_neg (show ¬ (false = true) by decide)] at H; exact H
    clear H
    have H := H1
    clear H1
    replace H := Option.bind_eq_some_iff.mp H
    obtain ⟨⟨t103, t104⟩, A70, H⟩ := H
    replace H : ((diaphoneref05_Missing.f k l0).bind fun bt107 => ((diaphoneref05_SameInts.f k t103 bt107.1).bind fun t111 => (if t111 = true then (diaphonelaw05_EchoMissing.j0 k l0 t103 t104 (t104 != bt107.2)) else (diaphonelaw05_EchoMissing.j0 k l0 t103 t104 true)))) = some r := H
    have A7 := Aside0.mk A70
    clear A70
    replace H := Option.bind_eq_some_iff.mp H
    obtain ⟨⟨t107, t108⟩, A80, H⟩ := H
    replace H : ((diaphoneref05_SameInts.f k t103 t107).bind fun t111 => (if t111 = true then (diaphonelaw05_EchoMissing.j0 k l0 t103 t104 (t104 != t108)) else (diaphonelaw05_EchoMissing.j0 k l0 t103 t104 true))) = some r := H
    have A8 := Aside0.mk A80
    clear A80
    have HC9 := Aside0.mk H
    clear H
    go_enter Try.func9, Try.ntmps9
    go_upto_region 5 with (first | (go_at_call 15; (with_reducible refine (long1.calls _ _ l0 false _ ?side1 ?side2 A2.out).mono ?_); (case side1 => repeat (first | exact HR0.out | (with_reducible refine Kd.C_alloc ?_ _) | (with_reducible refine Kd.C_drewN ?_ _) | (with_reducible refine Kd.C_drew ?_))); (case side2 => exact HC0.out); rintro e w10 ⟨rfl, hb⟩; skip; have n0_ := Aside0.mk (below_step (by repeat (first | (with_reducible first | exact HB.out | apply below_alloc | apply pw_below_drewN | apply below_drew1) | exact HB.out)) hb); clear HB; have HB := n0_; clear n0_; (try clear hb); (try clear hb2); (try clear hk); (try clear hi)) | ((with_reducible refine gate_callee (f := 37) rfl ?_); refine goesL_ (some 17) rfl rfl Try.func37 (by kernel_rfl) rfl #[.slice A0 l0.length c0] rfl (by (try simp only [List.map_toArray, List.map_cons, List.map_nil]); first | done | rfl | (simp only [List.length_drop, List.length_take]; rfl)) ?_; (with_reducible refine (echo_Missing.calls k _ _ l0 t103 t104 _ ?side1 ?side2 A7.out).mono ?_); (case side1 => repeat (first | exact (Kd.C_below HR0.out HB.out) | (with_reducible refine Kd.C_alloc ?_ _) | (with_reducible refine Kd.C_drewN ?_ _) | (with_reducible refine Kd.C_drew ?_))); (case side2 => exact HC0.out); rintro e w11 ⟨v105, rfl, ho0, hb⟩; refine ⟨_, rfl, ?_⟩; have n0_ := Aside0.mk (Kd.R_lower ho0 (below_size (by repeat (first | (with_reducible first | exact HB.out | apply below_alloc | apply pw_below_drewN | apply below_drew1) | exact HB.out)))); have n1_ := Aside0.mk (below_step (by repeat (first | (with_reducible first | exact HB.out | apply below_alloc | apply pw_below_drewN | apply below_drew1) | exact HB.out)) hb); clear HB; have HO106 := n0_; have HB := n1_; clear n0_ n1_; (try clear hb); (try clear hb2); (try clear hk); (try clear hi); (try clear ho0)) | ((with_reducible refine gate_callee (f := 38) rfl ?_); refine goesL_ (some 22) rfl rfl Try.func38 (by kernel_rfl) rfl #[.slice A0 l0.length c0] rfl (by (try simp only [List.map_toArray, List.map_cons, List.map_nil]); first | done | rfl | (simp only [List.length_drop, List.length_take]; rfl)) ?_; (with_reducible refine (diaphoneref05_Missing.calls k _ _ l0 t107 t108 _ ?side1 ?side2 A8.out).mono ?_); (case side1 => repeat (first | exact (Kd.C_below HR0.out HB.out) | (with_reducible refine Kd.C_alloc ?_ _) | (with_reducible refine Kd.C_drewN ?_ _) | (with_reducible refine Kd.C_drew ?_))); (case side2 => exact HC0.out); rintro e w12 ⟨v109, rfl, ho0, hb⟩; refine ⟨_, rfl, ?_⟩; have n0_ := Aside0.mk (Kd.R_elder' (by (with_reducible repeat (first | apply Kd.R_alloc | apply Kd.R_drewN | apply Kd.R_drew)); exact HO106.out) (Kd.R_base ho0) hb); have n1_ := Aside0.mk (Kd.R_lower (Kd.R_new' ho0 (Kd.R_lt (by (with_reducible repeat (first | apply Kd.R_alloc | apply Kd.R_drewN | apply Kd.R_drew)); exact HO106.out))) (below_size (by repeat (first | (with_reducible first | exact HB.out | apply below_alloc | apply pw_below_drewN | apply below_drew1) | exact HB.out)))); have n2_ := Aside0.mk (below_step (by repeat (first | (with_reducible first | exact HB.out | apply below_alloc | apply pw_below_drewN | apply below_drew1) | exact HB.out)) hb); clear HO106; clear HB; have HO106 := n0_; have HO110 := n1_; have HB := n2_; clear n0_ n1_ n2_; (try clear hb); (try clear hb2); (try clear hk); (try clear hi); (try clear ho0)))
    (try simp only [Act.put, List.setIfInBounds_toArray, List.set_cons_zero, List.set_cons_succ])
    go_cut [33] (fun v33 wc => ∃ (kq : Nat) (x33_8 : Bool), v33 = .bool x33_8 ∧ Aside0 (diaphonelaw05_EchoMissing.j0 kq l0 t103 t104 x33_8 = some r) ∧ Aside0 (kq ≤ k) ∧ Aside0 (Kd.R (Kd.int .i64) 3 wc w.heap.size (fun _ => True) v105 t103) ∧ Aside0 (Below w.heap.size w wc))
    case first =>
      have H := HC9.out
      clear HC9
      replace H := Option.bind_eq_some_iff.mp H
      obtain ⟨t111, A130, H⟩ := H
      replace H : (if t111 = true then (diaphonelaw05_EchoMissing.j0 k l0 t103 t104 (t104 != t108)) else (diaphonelaw05_EchoMissing.j0 k l0 t103 t104 true)) = some r := H
      have A13 := Aside0.mk A130
      clear A130
      by_cases c14 : t111 = true
      · subst c14
        have H1 : (diaphonelaw05_EchoMissing.j0 k l0 t103 t104 (t104 != t108)) = some r := by rw [if_pos rfl] at H; exact H
        clear H
        have H := H1
        clear H1
        have H' := Aside0.mk H
        clear H
        obtain ⟨Ao15, co15, eo15⟩ := Kd.R_slice HO106.out
        subst eo15
        obtain ⟨Ao16, co16, eo16⟩ := Kd.R_slice HO110.out
        subst eo16
        go_wp2_with (first | ((with_reducible refine gate_callee (f := 23) rfl ?_); refine goesL_ (some 27) rfl rfl Try.func23 (by kernel_rfl) rfl #[.slice Ao15 t103.length co15, .slice Ao16 t107.length co16] rfl (by (try simp only [List.map_toArray, List.map_cons, List.map_nil]); first | done | rfl | (simp only [List.length_drop, List.length_take]; rfl)) ?_; (with_reducible refine (diaphoneref05_SameInts.calls k _ _ t103 _ _ t107 true _ ?side1 ?side2 ?side3 ?side4 A13.out).mono ?_); (case side1 => repeat (first | exact (Kd.R_reads' HO106.out).2.2 | (with_reducible refine Kd.C_alloc ?_ _) | (with_reducible refine Kd.C_drewN ?_ _) | (with_reducible refine Kd.C_drew ?_))); (case side2 => exact (Kd.R_reads' HO106.out).2.1); (case side3 => repeat (first | exact (Kd.R_reads' HO110.out).2.2 | (with_reducible refine Kd.C_alloc ?_ _) | (with_reducible refine Kd.C_drewN ?_ _) | (with_reducible refine Kd.C_drew ?_))); (case side4 => exact (Kd.R_reads' HO110.out).2.1); rintro e w' ⟨rfl, ⟨nd, rfl⟩⟩; refine ⟨_, rfl, ?_⟩))
        go_meet
        case rel => exact ⟨_, ((t104 != t108)), (by first | rfl | (simp; done) | (simp [*]; done)), H', ⟨by first | omega | exact Nat.le_refl _⟩, ⟨by (with_reducible repeat (first | apply Kd.R_alloc | apply Kd.R_drewN | apply Kd.R_drew)); exact Kd.R_mono HO106.out (fun _ hk => trivial)⟩, ⟨by repeat (first | (with_reducible first | exact HB.out | apply below_alloc | apply pw_below_drewN | apply below_drew1) | exact HB.out)⟩⟩
      · replace c14 := Bool.eq_false_iff.mpr c14
        subst c14
        have H1 : (diaphonelaw05_EchoMissing.j0 k l0 t103 t104 true) = some r := by rw [if_neg (show ¬ (false = true) by decide)] at H; exact H
        clear H
        have H := H1
        clear H1
        have H' := Aside0.mk H
        clear H
        obtain ⟨Ao17, co17, eo17⟩ := Kd.R_slice HO106.out
        subst eo17
        obtain ⟨Ao18, co18, eo18⟩ := Kd.R_slice HO110.out
        subst eo18
        go_wp2_with (first | ((with_reducible refine gate_callee (f := 23) rfl ?_); refine goesL_ (some 27) rfl rfl Try.func23 (by kernel_rfl) rfl #[.slice Ao17 t103.length co17, .slice Ao18 t107.length co18] rfl (by (try simp only [List.map_toArray, List.map_cons, List.map_nil]); first | done | rfl | (simp only [List.length_drop, List.length_take]; rfl)) ?_; (with_reducible refine (diaphoneref05_SameInts.calls k _ _ t103 _ _ t107 false _ ?side1 ?side2 ?side3 ?side4 A13.out).mono ?_); (case side1 => repeat (first | exact (Kd.R_reads' HO106.out).2.2 | (with_reducible refine Kd.C_alloc ?_ _) | (with_reducible refine Kd.C_drewN ?_ _) | (with_reducible refine Kd.C_drew ?_))); (case side2 => exact (Kd.R_reads' HO106.out).2.1); (case side3 => repeat (first | exact (Kd.R_reads' HO110.out).2.2 | (with_reducible refine Kd.C_alloc ?_ _) | (with_reducible refine Kd.C_drewN ?_ _) | (with_reducible refine Kd.C_drew ?_))); (case side4 => exact (Kd.R_reads' HO110.out).2.1); rintro e w' ⟨rfl, ⟨nd, rfl⟩⟩; refine ⟨_, rfl, ?_⟩))
        go_meet
        case rel => exact ⟨_, (true), (by first | rfl | (simp; done) | (simp [*]; done)), H', ⟨by first | omega | exact Nat.le_refl _⟩, ⟨by (with_reducible repeat (first | apply Kd.R_alloc | apply Kd.R_drewN | apply Kd.R_drew)); exact Kd.R_mono HO106.out (fun _ hk => trivial)⟩, ⟨by repeat (first | (with_reducible first | exact HB.out | apply below_alloc | apply pw_below_drewN | apply below_drew1) | exact HB.out)⟩⟩
    case rest =>
      clear HC9
      try clear c1
      try clear c2
      try clear p2
      try clear c3
      try clear c9
      try clear c14
      try clear c16
      obtain ⟨kq, x33_8, rfl, HA, HJ8, HO_3, HB⟩ := hcut
      cases kq with
      | zero => exact absurd HA.out (by simp [diaphonelaw05_EchoMissing.j0])
      | succ kj8 =>
        have H := HA.out
        clear HA
        simp only [diaphonelaw05_EchoMissing.j0] at H
        by_cases c19 : x33_8 = true
        · subst c19
          have H1 : (some false) = some r := by rw [if_pos rfl] at H; exact H
          clear H
          have H := H1
          clear H1
          exact absurd (Option.some.inj H) (by rw [HRT.out]; decide)
        · replace c19 := Bool.eq_false_iff.mpr c19
          subst c19
          have H1 : ((echo_Delays.f kj8 l0).bind fun bt112 => (if t104 = 0 then (diaphonelaw05_EchoMissing.l0 kj8 l0 t103 bt112.1 bt112.2 0 0) else ((diaphonelaw05_sane.f kj8).bind fun t116 => (some t116)))) = some r := by rw [if_neg (show ¬ (false = true) by decide)] at H; exact H
          clear H
          have H := H1
          clear H1
          replace H := Option.bind_eq_some_iff.mp H
          obtain ⟨⟨t112, t113⟩, A200, H⟩ := H
          replace H : (if t104 = 0 then (diaphonelaw05_EchoMissing.l0 kj8 l0 t103 t112 t113 0 0) else ((diaphonelaw05_sane.f kj8).bind fun t116 => (some t116))) = some r := H
          have A20 := Aside0.mk A200
          clear A200
          by_cases c21 : t104 = 0
          · rw [if_pos c21] at H
            have c21b0 : (t104 == 0) = true := beq_iff_eq.mpr c21
            have c21b1 : (t104 != 0) = false := bne_eq_false_iff_eq.mpr c21
            clear c21
            have H' := Aside0.mk H
            clear H
            go_wp2_with (first | ((with_reducible refine gate_callee (f := 17) rfl ?_); refine goesL_ (some 36) rfl rfl Try.func17 (by kernel_rfl) rfl #[.slice A0 l0.length c0] rfl (by (try simp only [List.map_toArray, List.map_cons, List.map_nil]); first | done | rfl | (simp only [List.length_drop, List.length_take]; rfl)) ?_; (with_reducible refine (echo_Delays.calls kj8 _ _ l0 t112 t113 _ ?side1 ?side2 A20.out).mono ?_); (case side1 => repeat (first | exact (Kd.C_below HR0.out HB.out) | (with_reducible refine Kd.C_alloc ?_ _) | (with_reducible refine Kd.C_drewN ?_ _) | (with_reducible refine Kd.C_drew ?_))); (case side2 => exact HC0.out); rintro e w22 ⟨v114, rfl, ho0, hb⟩; refine ⟨_, rfl, ?_⟩; have n0_ := Aside0.mk (Kd.R_elder' (by (with_reducible repeat (first | apply Kd.R_alloc | apply Kd.R_drewN | apply Kd.R_drew)); exact HO_3.out) (Kd.R_base ho0) hb); have n1_ := Aside0.mk (Kd.R_lower (Kd.R_new' ho0 (Kd.R_lt (by (with_reducible repeat (first | apply Kd.R_alloc | apply Kd.R_drewN | apply Kd.R_drew)); exact HO_3.out))) (below_size (by repeat (first | (with_reducible first | exact HB.out | apply below_alloc | apply pw_below_drewN | apply below_drew1) | exact HB.out)))); have n2_ := Aside0.mk (below_step (by repeat (first | (with_reducible first | exact HB.out | apply below_alloc | apply pw_below_drewN | apply below_drew1) | exact HB.out)) hb); clear HO_3; clear HB; have HO_3 := n0_; have HO115 := n1_; have HB := n2_; clear n0_ n1_ n2_; (try clear hb); (try clear hb2); (try clear hk); (try clear hi); (try clear ho0)))
            go_loopg [9, 10] kj8 (fun kq v9 v10 w' => ∃ (x9_2 : Int) (x10_2 : Int), v9 = .int .i64 x9_2 ∧ v10 = .int .i64 x10_2 ∧ Aside0 (diaphonelaw05_EchoMissing.l0 kq l0 t103 t112 t113 x9_2 x10_2 = some r) ∧ Aside0 (kq ≤ kj8) ∧ Aside0 (Kd.R (Kd.int .i64) 3 w' w.heap.size (fun k_ => some k_ ≠ (v114 : Value).ownBlock) v105 t103) ∧ Aside0 (Kd.R (Kd.int .i64) 3 w' w.heap.size (fun k_ => some k_ ≠ (v105 : Value).ownBlock) v114 t112) ∧ Aside0 (Below w.heap.size w w'))
            case atStart => exact ⟨(0), (0), (by first | rfl | (simp; done) | (simp [*]; done)), (by first | rfl | (simp; done) | (simp [*]; done)), H', ⟨Nat.le_refl _⟩, ⟨by (with_reducible repeat (first | apply Kd.R_alloc | apply Kd.R_drewN | apply Kd.R_drew)); exact Kd.R_mono HO_3.out (fun _ hk => hk.2)⟩, ⟨by (with_reducible repeat (first | apply Kd.R_alloc | apply Kd.R_drewN | apply Kd.R_drew)); exact Kd.R_mono HO115.out (fun _ hk => hk.2)⟩, ⟨by repeat (first | (with_reducible first | exact HB.out | apply below_alloc | apply pw_below_drewN | apply below_drew1) | exact HB.out)⟩⟩
            case round =>
              clear H'
              try clear c1
              try clear c2
              try clear p2
              try clear c3
              try clear c9
              try clear c14
              try clear c16
              try clear c17
              try clear c19
              try clear c21
              try clear c21b0
              try clear c21b1
              try clear p2
              obtain ⟨x9_2, x10_2, rfl, rfl, HA, HK2, HO_3, HO_7, HB⟩ := hrel
              cases gk with
              | zero => exact absurd HA.out (by simp [diaphonelaw05_EchoMissing.l0])
              | succ k2 =>
                have H := HA.out
                clear HA
                simp only [diaphonelaw05_EchoMissing.l0] at H
                by_cases c23 : x10_2 < (t112.length : Int)
                · rw [if_pos c23] at H
                  have c23b0 : decide (x10_2 < (t112.length : Int)) = true := decide_eq_true c23
                  clear c23
                  by_cases c24 : x10_2 = 0
                  · rw [if_pos c24] at H
                    have c24b0 : (x10_2 == 0) = true := beq_iff_eq.mpr c24
                    have c24b1 : (x10_2 != 0) = false := bne_eq_false_iff_eq.mpr c24
                    clear c24
                    have H' := Aside0.mk H
                    clear H
                    obtain ⟨Ao25, co25, eo25⟩ := Kd.R_slice HO_7.out
                    subst eo25
                    try go_wp2
                    have n0_ := Aside0.mk (Kd.R_drew HO_3.out)
                    have n1_ := Aside0.mk (Kd.R_drew HO_7.out)
                    have n2_ := Aside0.mk (below_drew1 HB.out)
                    clear HO_3
                    clear HO_7
                    clear HB
                    have HO_3 := n0_
                    have HO_7 := n1_
                    have HB := n2_
                    clear n0_ n1_ n2_
                    refine start_ (n := 14) (S := fun w' => True) (ds := []) #[false, false, false, false, false, false, false, false, false, false, false, false, false, false] (by kernel_rfl) rfl rfl trivial (fun hHeld => ?_); refine with_tabW diaphonelaw05_EchoMissing.tab14 diaphonelaw05_EchoMissing.bits14 (fun HT_ HW_ => ?_)
                    generalize wr.drew = w26 at HO_3 HO_7 HB hHeld ⊢
                    refine pure_ (i := 0) (N := some 48) (v := ?_) (a' := ?_) #[true, false, false, false, false, false, false, false, false, false, false, false, false, false] rfl rfl (any_of HT_.out (by kernel_rfl)) (fun _ _ _ h => h) (Or.inl ⟨by rfl, ?_⟩) ?_ ?_
                    rotate_left
                    · intro w'
                      go_simp
                      with_reducible rfl
                    rotate_left
                    · simp only [Act.put, List.setIfInBounds_toArray, List.set_cons_zero, List.set_cons_succ, i64_w, i32_w]
                      rfl
                    refine pure_ (i := 1) (N := some 49) (v := ?_) (a' := ?_) #[true, true, false, false, false, false, false, false, false, false, false, false, false, false] rfl rfl (any_of HT_.out (by kernel_rfl)) (fun _ _ _ h => h) (Or.inl ⟨by rfl, ?_⟩) ?_ ?_
                    rotate_left
                    · intro w'
                      go_simp
                      with_reducible rfl
                    rotate_left
                    · simp only [Act.put, List.setIfInBounds_toArray, List.set_cons_zero, List.set_cons_succ, i64_w, i32_w]
                      rfl
                    refine pure_ (i := 2) (N := some 50) (v := ?_) (a' := ?_) #[true, true, true, false, false, false, false, false, false, false, false, false, false, false] rfl rfl (any_of HT_.out (by kernel_rfl)) (fun _ _ _ h => h) (Or.inl ⟨by rfl, ?_⟩) ?_ ?_
                    rotate_left
                    · intro w'
                      go_simp
                      with_reducible rfl
                    rotate_left
                    · simp only [Act.put, List.setIfInBounds_toArray, List.set_cons_zero, List.set_cons_succ, i64_w, i32_w]
                      rfl
                    refine pure_ (i := 3) (N := some 51) (v := undef) (a' := ?_) #[true, true, true, true, false, false, false, false, false, false, false, false, false, false] rfl rfl (any_of HT_.out (by kernel_rfl)) (fun _ _ _ h => h) (Or.inr ⟨by rfl, rfl⟩) ?_ ?_
                    rotate_left
                    · simp only [Act.put, List.setIfInBounds_toArray, List.set_cons_zero, List.set_cons_succ, i64_w, i32_w]
                      rfl
                    refine pure_ (i := 4) (N := some 52) (v := undef) (a' := ?_) #[true, true, true, true, true, false, false, false, false, false, false, false, false, false] rfl rfl (any_of HT_.out (by kernel_rfl)) (fun _ _ _ h => h) (Or.inr ⟨by rfl, rfl⟩) ?_ ?_
                    rotate_left
                    · simp only [Act.put, List.setIfInBounds_toArray, List.set_cons_zero, List.set_cons_succ, i64_w, i32_w]
                      rfl
                    refine pure_ (i := 5) (N := some 53) (v := undef) (a' := ?_) #[true, true, true, true, true, true, false, false, false, false, false, false, false, false] rfl rfl (any_of HT_.out (by kernel_rfl)) (fun _ _ _ h => h) (Or.inr ⟨by rfl, rfl⟩) ?_ ?_
                    rotate_left
                    · simp only [Act.put, List.setIfInBounds_toArray, List.set_cons_zero, List.set_cons_succ, i64_w, i32_w]
                      rfl
                    refine pure_ (i := 6) (N := some 54) (v := undef) (a' := ?_) #[true, true, true, true, true, true, true, false, false, false, false, false, false, false] rfl rfl (any_of HT_.out (by kernel_rfl)) (fun _ _ _ h => h) (Or.inr ⟨by rfl, rfl⟩) ?_ ?_
                    rotate_left
                    · simp only [Act.put, List.setIfInBounds_toArray, List.set_cons_zero, List.set_cons_succ, i64_w, i32_w]
                      rfl
                    refine pure_ (i := 7) (N := some 55) (v := undef) (a' := ?_) #[true, true, true, true, true, true, true, true, false, false, false, false, false, false] rfl rfl (any_of HT_.out (by kernel_rfl)) (fun _ _ _ h => h) (Or.inr ⟨by rfl, rfl⟩) ?_ ?_
                    rotate_left
                    · simp only [Act.put, List.setIfInBounds_toArray, List.set_cons_zero, List.set_cons_succ, i64_w, i32_w]
                      rfl
                    refine pure_ (i := 8) (N := some 56) (v := undef) (a' := ?_) #[true, true, true, true, true, true, true, true, true, false, false, false, false, false] rfl rfl (any_of HT_.out (by kernel_rfl)) (fun _ _ _ h => h) (Or.inr ⟨by rfl, rfl⟩) ?_ ?_
                    rotate_left
                    · simp only [Act.put, List.setIfInBounds_toArray, List.set_cons_zero, List.set_cons_succ, i64_w, i32_w]
                      rfl
                    refine pure_ (i := 9) (N := some 57) (v := undef) (a' := ?_) #[true, true, true, true, true, true, true, true, true, true, false, false, false, false] rfl rfl (any_of HT_.out (by kernel_rfl)) (fun _ _ _ h => h) (Or.inr ⟨by rfl, rfl⟩) ?_ ?_
                    rotate_left
                    · simp only [Act.put, List.setIfInBounds_toArray, List.set_cons_zero, List.set_cons_succ, i64_w, i32_w]
                      rfl
                    refine pure_ (i := 10) (N := some 58) (v := undef) (a' := ?_) #[true, true, true, true, true, true, true, true, true, true, true, false, false, false] rfl rfl (any_of HT_.out (by kernel_rfl)) (fun _ _ _ h => h) (Or.inr ⟨by rfl, rfl⟩) ?_ ?_
                    rotate_left
                    · simp only [Act.put, List.setIfInBounds_toArray, List.set_cons_zero, List.set_cons_succ, i64_w, i32_w]
                      rfl
                    refine pure_ (i := 11) (N := some 59) (v := undef) (a' := ?_) #[true, true, true, true, true, true, true, true, true, true, true, true, false, false] rfl rfl (any_of HT_.out (by kernel_rfl)) (fun _ _ _ h => h) (Or.inr ⟨by rfl, rfl⟩) ?_ ?_
                    rotate_left
                    · simp only [Act.put, List.setIfInBounds_toArray, List.set_cons_zero, List.set_cons_succ, i64_w, i32_w]
                      rfl
                    refine pure_ (i := 12) (N := some 60) (v := undef) (a' := ?_) #[true, true, true, true, true, true, true, true, true, true, true, true, true, false] rfl rfl (any_of HT_.out (by kernel_rfl)) (fun _ _ _ h => h) (Or.inr ⟨by rfl, rfl⟩) ?_ ?_
                    rotate_left
                    · simp only [Act.put, List.setIfInBounds_toArray, List.set_cons_zero, List.set_cons_succ, i64_w, i32_w]
                      rfl
                    refine pure_ (i := 13) (N := some 61) (v := ?_) (a' := ?_) #[true, true, true, true, true, true, true, true, true, true, true, true, true, true] rfl rfl (any_of HT_.out (by kernel_rfl)) (fun _ _ _ h => h) (Or.inl ⟨by rfl, ?_⟩) ?_ ?_
                    rotate_left
                    · intro w'
                      go_simp
                      with_reducible rfl
                    rotate_left
                    · simp only [Act.put, List.setIfInBounds_toArray, List.set_cons_zero, List.set_cons_succ, i64_w, i32_w]
                      rfl
                    refine done_ (done_of HT_.out (by kernel_rfl)) ?_
                    try go_wp2
                    go_roundg k2
                    case measure => have := HJ8.out; have := HK2.out; omega
                    case rel => exact ⟨(wrap64 (x9_2 + 1)), (wrap64 (x10_2 + 1)), (by first | rfl | (simp; done) | (simp [*]; done)), (by first | rfl | (simp; done) | (simp [*]; done)), H', ⟨by have := HJ8.out; have := HK2.out; omega⟩, ⟨by (with_reducible repeat (first | apply Kd.R_alloc | apply Kd.R_drewN | apply Kd.R_drew)); exact HO_3.out⟩, ⟨by (with_reducible repeat (first | apply Kd.R_alloc | apply Kd.R_drewN | apply Kd.R_drew)); exact HO_7.out⟩, ⟨by repeat (first | (with_reducible first | exact HB.out | apply below_alloc | apply pw_below_drewN | apply below_drew1) | exact HB.out)⟩⟩
                  · rw [if_neg c24] at H
                    have c24b0 : (x10_2 == 0) = false := beq_eq_false_iff_ne.mpr c24
                    have c24b1 : (x10_2 != 0) = true := bne_iff_ne.mpr c24
                    by_cases c27 : 0 ≤ x10_2
                    · rw [if_pos c27] at H
                      have c27b0 : decide (0 ≤ x10_2) = true := decide_eq_true c27
                      clear c27
                      obtain ⟨ji28, hji28⟩ : ∃ j_ : Int, (wrap64 (x10_2 - 1)) = j_ := ⟨_, rfl⟩
                      replace H : (if 0 ≤ (ji28) then (if (ji28) < (t112.length : Int) then (if (rd t112 x10_2) = (rd t112 (ji28)) then (diaphonelaw05_EchoMissing.l0 k2 l0 t103 t112 t113 x9_2 (wrap64 (x10_2 + 1))) else (diaphonelaw05_EchoMissing.l0 k2 l0 t103 t112 t113 (wrap64 (x9_2 + 1)) (wrap64 (x10_2 + 1)))) else (none)) else (none)) = some r := by first | (rw [hji28] at H; exact H) | (simp only [hji28] at H ⊢; exact H)
                      have hji28w : (IntKind.i64.wrap (x10_2 - 1)) = ji28 := (i64_w _).trans hji28
                      by_cases c29 : 0 ≤ (ji28)
                      · rw [if_pos c29] at H
                        have c29b0 : decide (0 ≤ (ji28)) = true := decide_eq_true c29
                        clear c29
                        by_cases c30 : (ji28) < (t112.length : Int)
                        · rw [if_pos c30] at H
                          have c30b0 : decide ((ji28) < (t112.length : Int)) = true := decide_eq_true c30
                          clear c30
                          by_cases c31 : (rd t112 x10_2) = (rd t112 (ji28))
                          · rw [if_pos c31] at H
                            have c31b0 : ((rd t112 x10_2) == (rd t112 (ji28))) = true := beq_iff_eq.mpr c31
                            have c31b1 : ((rd t112 x10_2) != (rd t112 (ji28))) = false := bne_eq_false_iff_eq.mpr c31
                            clear c31
                            have H' := Aside0.mk H
                            clear H
                            obtain ⟨Ao32, co32, eo32⟩ := Kd.R_slice HO_7.out
                            subst eo32
                            try go_wp2
                            have n0_ := Aside0.mk (Kd.R_drew HO_3.out)
                            have n1_ := Aside0.mk (Kd.R_drew HO_7.out)
                            have n2_ := Aside0.mk (below_drew1 HB.out)
                            clear HO_3
                            clear HO_7
                            clear HB
                            have HO_3 := n0_
                            have HO_7 := n1_
                            have HB := n2_
                            clear n0_ n1_ n2_
                            have p117 : 0 ≤ (x10_2 : Int) := of_decide_eq_true (by first | (with_reducible assumption) | assumption)
                            have q117 : x10_2 < (t112.length : Int) := of_decide_eq_true (by first | (with_reducible assumption) | assumption)
                            obtain ⟨ad117, e117, hx117_0⟩ := Kd.at_int (Kd.R_reads' HO_7.out).2.2 x10_2 p117 q117
                            cases e117
                            replace p117 := eq_true p117
                            replace q117 := eq_true q117
                            have p118 : 0 ≤ ((ji28) : Int) := of_decide_eq_true (by first | (with_reducible assumption) | assumption)
                            have q118 : (ji28) < (t112.length : Int) := of_decide_eq_true (by first | (with_reducible assumption) | assumption)
                            obtain ⟨ad118, e118, hx118_0⟩ := Kd.at_int (Kd.R_reads' HO_7.out).2.2 (ji28) p118 q118
                            obtain rfl : ad117 = ad118 := (by injection e118)
                            replace p118 := eq_true p118
                            replace q118 := eq_true q118
                            refine start_ (n := 14) (S := fun w' => w'.cell? (ad117.add (x10_2).toNat) = some (.int .i64 (rd t112 x10_2)) ∧ w'.cell? (ad117.add ((ji28)).toNat) = some (.int .i64 (rd t112 (ji28)))) (ds := []) #[false, false, false, false, false, false, false, false, false, false, false, false, false, false] (by kernel_rfl) rfl rfl ⟨hx117_0, hx118_0⟩ (fun hHeld => ?_); refine with_tabW diaphonelaw05_EchoMissing.tab14 diaphonelaw05_EchoMissing.bits14 (fun HT_ HW_ => ?_)
                            generalize wr.drew = w33 at HO_3 HO_7 HB hx117_0 hx118_0 hHeld ⊢
                            refine pure_ (i := 0) (N := some 48) (v := ?_) (a' := ?_) #[true, false, false, false, false, false, false, false, false, false, false, false, false, false] rfl rfl (any_of HT_.out (by kernel_rfl)) (fun _ _ _ h => h) (Or.inl ⟨by rfl, ?_⟩) ?_ ?_
                            rotate_left
                            · intro w'
                              go_simp
                              with_reducible rfl
                            rotate_left
                            · simp only [Act.put, List.setIfInBounds_toArray, List.set_cons_zero, List.set_cons_succ, i64_w, i32_w]
                              rfl
                            refine pure_ (i := 1) (N := some 49) (v := ?_) (a' := ?_) #[true, true, false, false, false, false, false, false, false, false, false, false, false, false] rfl rfl (any_of HT_.out (by kernel_rfl)) (fun _ _ _ h => h) (Or.inl ⟨by rfl, ?_⟩) ?_ ?_
                            rotate_left
                            · intro w'
                              go_simp
                              with_reducible rfl
                            rotate_left
                            · simp only [Act.put, List.setIfInBounds_toArray, List.set_cons_zero, List.set_cons_succ, i64_w, i32_w]
                              rfl
                            refine pure_ (i := 2) (N := some 50) (v := ?_) (a' := ?_) #[true, true, true, false, false, false, false, false, false, false, false, false, false, false] rfl rfl (any_of HT_.out (by kernel_rfl)) (fun _ _ _ h => h) (Or.inl ⟨by rfl, ?_⟩) ?_ ?_
                            rotate_left
                            · intro w'
                              go_simp
                              with_reducible rfl
                            rotate_left
                            · simp only [Act.put, List.setIfInBounds_toArray, List.set_cons_zero, List.set_cons_succ, i64_w, i32_w]
                              rfl
                            refine pure_ (i := 3) (N := some 51) (v := ?_) (a' := ?_) #[true, true, true, true, false, false, false, false, false, false, false, false, false, false] rfl rfl (any_of HT_.out (by kernel_rfl)) (fun _ _ _ h => h) (Or.inl ⟨by rfl, ?_⟩) ?_ ?_
                            rotate_left
                            · intro w'
                              go_simp
                              with_reducible rfl
                            rotate_left
                            · simp only [Act.put, List.setIfInBounds_toArray, List.set_cons_zero, List.set_cons_succ, i64_w, i32_w]
                              rfl
                            refine pure_ (i := 4) (N := some 52) (v := ?_) (a' := ?_) #[true, true, true, true, true, false, false, false, false, false, false, false, false, false] rfl rfl (any_of HT_.out (by kernel_rfl)) (fun _ _ _ h => h) (Or.inl ⟨by rfl, ?_⟩) ?_ ?_
                            rotate_left
                            · intro w'
                              go_simp
                              with_reducible rfl
                            rotate_left
                            · simp only [Act.put, List.setIfInBounds_toArray, List.set_cons_zero, List.set_cons_succ, i64_w, i32_w]
                              rfl
                            refine pure_ (i := 5) (N := some 53) (v := ?_) (a' := ?_) #[true, true, true, true, true, true, false, false, false, false, false, false, false, false] rfl rfl (any_of HT_.out (by kernel_rfl)) (fun _ _ _ h => h) (Or.inl ⟨by rfl, ?_⟩) ?_ ?_
                            rotate_left
                            · intro w'
                              go_simp
                              with_reducible rfl
                            rotate_left
                            · simp only [Act.put, List.setIfInBounds_toArray, List.set_cons_zero, List.set_cons_succ, i64_w, i32_w]
                              rfl
                            refine pure_ (i := 7) (N := some 55) (v := ?_) (a' := ?_) #[true, true, true, true, true, true, false, true, false, false, false, false, false, false] rfl rfl (any_of HT_.out (by kernel_rfl)) (fun _ _ _ h => h) (Or.inl ⟨by rfl, ?_⟩) ?_ ?_
                            rotate_left
                            · intro w'
                              go_simp
                              with_reducible rfl
                            rotate_left
                            · simp only [Act.put, List.setIfInBounds_toArray, List.set_cons_zero, List.set_cons_succ, i64_w, i32_w]
                              rfl
                            refine pure_ (i := 8) (N := some 56) (v := ?_) (a' := ?_) #[true, true, true, true, true, true, false, true, true, false, false, false, false, false] rfl rfl (any_of HT_.out (by kernel_rfl)) (fun _ _ _ h => h) (Or.inl ⟨by rfl, ?_⟩) ?_ ?_
                            rotate_left
                            · intro w'
                              go_simp
                              with_reducible rfl
                            rotate_left
                            · simp only [Act.put, List.setIfInBounds_toArray, List.set_cons_zero, List.set_cons_succ, i64_w, i32_w]
                              rfl
                            refine pure_ (i := 9) (N := some 57) (v := ?_) (a' := ?_) #[true, true, true, true, true, true, false, true, true, true, false, false, false, false] rfl rfl (any_of HT_.out (by kernel_rfl)) (fun _ _ _ h => h) (Or.inl ⟨by rfl, ?_⟩) ?_ ?_
                            rotate_left
                            · intro w'
                              go_simp
                              with_reducible rfl
                            rotate_left
                            · simp only [Act.put, List.setIfInBounds_toArray, List.set_cons_zero, List.set_cons_succ, i64_w, i32_w]
                              rfl
                            refine pure_ (i := 10) (N := some 58) (v := ?_) (a' := ?_) #[true, true, true, true, true, true, false, true, true, true, true, false, false, false] rfl rfl (any_of HT_.out (by kernel_rfl)) (fun _ _ _ h => h) (Or.inl ⟨by rfl, ?_⟩) ?_ ?_
                            rotate_left
                            · intro w'
                              go_simp
                              with_reducible rfl
                            rotate_left
                            · simp only [Act.put, List.setIfInBounds_toArray, List.set_cons_zero, List.set_cons_succ, i64_w, i32_w]
                              rfl
                            refine take_ (i := 6) (N := some 54) (v := ?_) (a' := ?_) #[true, true, true, true, true, true, true, true, true, true, true, false, false, false] rfl rfl (take_ofW HT_.out HW_.out (by kernel_rfl)) (fun _ _ _ h => h) (Or.inl ⟨by rfl, ?_⟩) hHeld ?_ ?_
                            rotate_left
                            · rintro w' ⟨s0, s1⟩
                              go_simp
                              with_reducible rfl
                            rotate_left
                            · simp only [Act.put, List.setIfInBounds_toArray, List.set_cons_zero, List.set_cons_succ, i64_w, i32_w]
                              rfl
                            refine take_ (i := 11) (N := some 59) (v := ?_) (a' := ?_) #[true, true, true, true, true, true, true, true, true, true, true, true, false, false] rfl rfl (take_ofW HT_.out HW_.out (by kernel_rfl)) (fun _ _ _ h => h) (Or.inl ⟨by rfl, ?_⟩) hHeld ?_ ?_
                            rotate_left
                            · rintro w' ⟨s0, s1⟩
                              go_simp
                              with_reducible rfl
                            rotate_left
                            · simp only [Act.put, List.setIfInBounds_toArray, List.set_cons_zero, List.set_cons_succ, i64_w, i32_w]
                              rfl
                            refine pure_ (i := 12) (N := some 60) (v := ?_) (a' := ?_) #[true, true, true, true, true, true, true, true, true, true, true, true, true, false] rfl rfl (any_of HT_.out (by kernel_rfl)) (fun _ _ _ h => h) (Or.inl ⟨by rfl, ?_⟩) ?_ ?_
                            rotate_left
                            · intro w'
                              go_simp
                              with_reducible rfl
                            rotate_left
                            · simp only [Act.put, List.setIfInBounds_toArray, List.set_cons_zero, List.set_cons_succ, i64_w, i32_w]
                              rfl
                            refine pure_ (i := 13) (N := some 61) (v := ?_) (a' := ?_) #[true, true, true, true, true, true, true, true, true, true, true, true, true, true] rfl rfl (any_of HT_.out (by kernel_rfl)) (fun _ _ _ h => h) (Or.inl ⟨by rfl, ?_⟩) ?_ ?_
                            rotate_left
                            · intro w'
                              go_simp
                              with_reducible rfl
                            rotate_left
                            · simp only [Act.put, List.setIfInBounds_toArray, List.set_cons_zero, List.set_cons_succ, i64_w, i32_w]
                              rfl
                            refine done_ (done_of HT_.out (by kernel_rfl)) ?_
                            try go_wp2
                            go_roundg k2
                            case measure => have := HJ8.out; have := HK2.out; omega
                            case rel => exact ⟨(x9_2), (wrap64 (x10_2 + 1)), (by first | rfl | (simp; done) | (simp [*]; done)), (by first | rfl | (simp; done) | (simp [*]; done)), H', ⟨by have := HJ8.out; have := HK2.out; omega⟩, ⟨by (with_reducible repeat (first | apply Kd.R_alloc | apply Kd.R_drewN | apply Kd.R_drew)); exact HO_3.out⟩, ⟨by (with_reducible repeat (first | apply Kd.R_alloc | apply Kd.R_drewN | apply Kd.R_drew)); exact HO_7.out⟩, ⟨by repeat (first | (with_reducible first | exact HB.out | apply below_alloc | apply pw_below_drewN | apply below_drew1) | exact HB.out)⟩⟩
                          · rw [if_neg c31] at H
                            have c31b0 : ((rd t112 x10_2) == (rd t112 (ji28))) = false := beq_eq_false_iff_ne.mpr c31
                            have c31b1 : ((rd t112 x10_2) != (rd t112 (ji28))) = true := bne_iff_ne.mpr c31
                            have H' := Aside0.mk H
                            clear H
                            obtain ⟨Ao34, co34, eo34⟩ := Kd.R_slice HO_7.out
                            subst eo34
                            try go_wp2
                            have n0_ := Aside0.mk (Kd.R_drew HO_3.out)
                            have n1_ := Aside0.mk (Kd.R_drew HO_7.out)
                            have n2_ := Aside0.mk (below_drew1 HB.out)
                            clear HO_3
                            clear HO_7
                            clear HB
                            have HO_3 := n0_
                            have HO_7 := n1_
                            have HB := n2_
                            clear n0_ n1_ n2_
                            have p117 : 0 ≤ (x10_2 : Int) := of_decide_eq_true (by first | (with_reducible assumption) | assumption)
                            have q117 : x10_2 < (t112.length : Int) := of_decide_eq_true (by first | (with_reducible assumption) | assumption)
                            obtain ⟨ad117, e117, hx117_0⟩ := Kd.at_int (Kd.R_reads' HO_7.out).2.2 x10_2 p117 q117
                            cases e117
                            replace p117 := eq_true p117
                            replace q117 := eq_true q117
                            have p118 : 0 ≤ ((ji28) : Int) := of_decide_eq_true (by first | (with_reducible assumption) | assumption)
                            have q118 : (ji28) < (t112.length : Int) := of_decide_eq_true (by first | (with_reducible assumption) | assumption)
                            obtain ⟨ad118, e118, hx118_0⟩ := Kd.at_int (Kd.R_reads' HO_7.out).2.2 (ji28) p118 q118
                            obtain rfl : ad117 = ad118 := (by injection e118)
                            replace p118 := eq_true p118
                            replace q118 := eq_true q118
                            refine start_ (n := 14) (S := fun w' => w'.cell? (ad117.add (x10_2).toNat) = some (.int .i64 (rd t112 x10_2)) ∧ w'.cell? (ad117.add ((ji28)).toNat) = some (.int .i64 (rd t112 (ji28)))) (ds := []) #[false, false, false, false, false, false, false, false, false, false, false, false, false, false] (by kernel_rfl) rfl rfl ⟨hx117_0, hx118_0⟩ (fun hHeld => ?_); refine with_tabW diaphonelaw05_EchoMissing.tab14 diaphonelaw05_EchoMissing.bits14 (fun HT_ HW_ => ?_)
                            generalize wr.drew = w35 at HO_3 HO_7 HB hx117_0 hx118_0 hHeld ⊢
                            refine pure_ (i := 0) (N := some 48) (v := ?_) (a' := ?_) #[true, false, false, false, false, false, false, false, false, false, false, false, false, false] rfl rfl (any_of HT_.out (by kernel_rfl)) (fun _ _ _ h => h) (Or.inl ⟨by rfl, ?_⟩) ?_ ?_
                            rotate_left
                            · intro w'
                              go_simp
                              with_reducible rfl
                            rotate_left
                            · simp only [Act.put, List.setIfInBounds_toArray, List.set_cons_zero, List.set_cons_succ, i64_w, i32_w]
                              rfl
                            refine pure_ (i := 1) (N := some 49) (v := ?_) (a' := ?_) #[true, true, false, false, false, false, false, false, false, false, false, false, false, false] rfl rfl (any_of HT_.out (by kernel_rfl)) (fun _ _ _ h => h) (Or.inl ⟨by rfl, ?_⟩) ?_ ?_
                            rotate_left
                            · intro w'
                              go_simp
                              with_reducible rfl
                            rotate_left
                            · simp only [Act.put, List.setIfInBounds_toArray, List.set_cons_zero, List.set_cons_succ, i64_w, i32_w]
                              rfl
                            refine pure_ (i := 2) (N := some 50) (v := ?_) (a' := ?_) #[true, true, true, false, false, false, false, false, false, false, false, false, false, false] rfl rfl (any_of HT_.out (by kernel_rfl)) (fun _ _ _ h => h) (Or.inl ⟨by rfl, ?_⟩) ?_ ?_
                            rotate_left
                            · intro w'
                              go_simp
                              with_reducible rfl
                            rotate_left
                            · simp only [Act.put, List.setIfInBounds_toArray, List.set_cons_zero, List.set_cons_succ, i64_w, i32_w]
                              rfl
                            refine pure_ (i := 3) (N := some 51) (v := ?_) (a' := ?_) #[true, true, true, true, false, false, false, false, false, false, false, false, false, false] rfl rfl (any_of HT_.out (by kernel_rfl)) (fun _ _ _ h => h) (Or.inl ⟨by rfl, ?_⟩) ?_ ?_
                            rotate_left
                            · intro w'
                              go_simp
                              with_reducible rfl
                            rotate_left
                            · simp only [Act.put, List.setIfInBounds_toArray, List.set_cons_zero, List.set_cons_succ, i64_w, i32_w]
                              rfl
                            refine pure_ (i := 4) (N := some 52) (v := ?_) (a' := ?_) #[true, true, true, true, true, false, false, false, false, false, false, false, false, false] rfl rfl (any_of HT_.out (by kernel_rfl)) (fun _ _ _ h => h) (Or.inl ⟨by rfl, ?_⟩) ?_ ?_
                            rotate_left
                            · intro w'
                              go_simp
                              with_reducible rfl
                            rotate_left
                            · simp only [Act.put, List.setIfInBounds_toArray, List.set_cons_zero, List.set_cons_succ, i64_w, i32_w]
                              rfl
                            refine pure_ (i := 5) (N := some 53) (v := ?_) (a' := ?_) #[true, true, true, true, true, true, false, false, false, false, false, false, false, false] rfl rfl (any_of HT_.out (by kernel_rfl)) (fun _ _ _ h => h) (Or.inl ⟨by rfl, ?_⟩) ?_ ?_
                            rotate_left
                            · intro w'
                              go_simp
                              with_reducible rfl
                            rotate_left
                            · simp only [Act.put, List.setIfInBounds_toArray, List.set_cons_zero, List.set_cons_succ, i64_w, i32_w]
                              rfl
                            refine pure_ (i := 7) (N := some 55) (v := ?_) (a' := ?_) #[true, true, true, true, true, true, false, true, false, false, false, false, false, false] rfl rfl (any_of HT_.out (by kernel_rfl)) (fun _ _ _ h => h) (Or.inl ⟨by rfl, ?_⟩) ?_ ?_
                            rotate_left
                            · intro w'
                              go_simp
                              with_reducible rfl
                            rotate_left
                            · simp only [Act.put, List.setIfInBounds_toArray, List.set_cons_zero, List.set_cons_succ, i64_w, i32_w]
                              rfl
                            refine pure_ (i := 8) (N := some 56) (v := ?_) (a' := ?_) #[true, true, true, true, true, true, false, true, true, false, false, false, false, false] rfl rfl (any_of HT_.out (by kernel_rfl)) (fun _ _ _ h => h) (Or.inl ⟨by rfl, ?_⟩) ?_ ?_
                            rotate_left
                            · intro w'
                              go_simp
                              with_reducible rfl
                            rotate_left
                            · simp only [Act.put, List.setIfInBounds_toArray, List.set_cons_zero, List.set_cons_succ, i64_w, i32_w]
                              rfl
                            refine pure_ (i := 9) (N := some 57) (v := ?_) (a' := ?_) #[true, true, true, true, true, true, false, true, true, true, false, false, false, false] rfl rfl (any_of HT_.out (by kernel_rfl)) (fun _ _ _ h => h) (Or.inl ⟨by rfl, ?_⟩) ?_ ?_
                            rotate_left
                            · intro w'
                              go_simp
                              with_reducible rfl
                            rotate_left
                            · simp only [Act.put, List.setIfInBounds_toArray, List.set_cons_zero, List.set_cons_succ, i64_w, i32_w]
                              rfl
                            refine pure_ (i := 10) (N := some 58) (v := ?_) (a' := ?_) #[true, true, true, true, true, true, false, true, true, true, true, false, false, false] rfl rfl (any_of HT_.out (by kernel_rfl)) (fun _ _ _ h => h) (Or.inl ⟨by rfl, ?_⟩) ?_ ?_
                            rotate_left
                            · intro w'
                              go_simp
                              with_reducible rfl
                            rotate_left
                            · simp only [Act.put, List.setIfInBounds_toArray, List.set_cons_zero, List.set_cons_succ, i64_w, i32_w]
                              rfl
                            refine take_ (i := 6) (N := some 54) (v := ?_) (a' := ?_) #[true, true, true, true, true, true, true, true, true, true, true, false, false, false] rfl rfl (take_ofW HT_.out HW_.out (by kernel_rfl)) (fun _ _ _ h => h) (Or.inl ⟨by rfl, ?_⟩) hHeld ?_ ?_
                            rotate_left
                            · rintro w' ⟨s0, s1⟩
                              go_simp
                              with_reducible rfl
                            rotate_left
                            · simp only [Act.put, List.setIfInBounds_toArray, List.set_cons_zero, List.set_cons_succ, i64_w, i32_w]
                              rfl
                            refine take_ (i := 11) (N := some 59) (v := ?_) (a' := ?_) #[true, true, true, true, true, true, true, true, true, true, true, true, false, false] rfl rfl (take_ofW HT_.out HW_.out (by kernel_rfl)) (fun _ _ _ h => h) (Or.inl ⟨by rfl, ?_⟩) hHeld ?_ ?_
                            rotate_left
                            · rintro w' ⟨s0, s1⟩
                              go_simp
                              with_reducible rfl
                            rotate_left
                            · simp only [Act.put, List.setIfInBounds_toArray, List.set_cons_zero, List.set_cons_succ, i64_w, i32_w]
                              rfl
                            refine pure_ (i := 12) (N := some 60) (v := ?_) (a' := ?_) #[true, true, true, true, true, true, true, true, true, true, true, true, true, false] rfl rfl (any_of HT_.out (by kernel_rfl)) (fun _ _ _ h => h) (Or.inl ⟨by rfl, ?_⟩) ?_ ?_
                            rotate_left
                            · intro w'
                              go_simp
                              with_reducible rfl
                            rotate_left
                            · simp only [Act.put, List.setIfInBounds_toArray, List.set_cons_zero, List.set_cons_succ, i64_w, i32_w]
                              rfl
                            refine pure_ (i := 13) (N := some 61) (v := ?_) (a' := ?_) #[true, true, true, true, true, true, true, true, true, true, true, true, true, true] rfl rfl (any_of HT_.out (by kernel_rfl)) (fun _ _ _ h => h) (Or.inl ⟨by rfl, ?_⟩) ?_ ?_
                            rotate_left
                            · intro w'
                              go_simp
                              with_reducible rfl
                            rotate_left
                            · simp only [Act.put, List.setIfInBounds_toArray, List.set_cons_zero, List.set_cons_succ, i64_w, i32_w]
                              rfl
                            refine done_ (done_of HT_.out (by kernel_rfl)) ?_
                            try go_wp2
                            go_roundg k2
                            case measure => have := HJ8.out; have := HK2.out; omega
                            case rel => exact ⟨(wrap64 (x9_2 + 1)), (wrap64 (x10_2 + 1)), (by first | rfl | (simp; done) | (simp [*]; done)), (by first | rfl | (simp; done) | (simp [*]; done)), H', ⟨by have := HJ8.out; have := HK2.out; omega⟩, ⟨by (with_reducible repeat (first | apply Kd.R_alloc | apply Kd.R_drewN | apply Kd.R_drew)); exact HO_3.out⟩, ⟨by (with_reducible repeat (first | apply Kd.R_alloc | apply Kd.R_drewN | apply Kd.R_drew)); exact HO_7.out⟩, ⟨by repeat (first | (with_reducible first | exact HB.out | apply below_alloc | apply pw_below_drewN | apply below_drew1) | exact HB.out)⟩⟩
                        · rw [if_neg c30] at H
                          exact absurd H (by simp)
                      · rw [if_neg c29] at H
                        exact absurd H (by simp)
                    · rw [if_neg c27] at H
                      exact absurd H (by simp)
                · rw [if_neg c23] at H
                  have c23b0 : decide (x10_2 < (t112.length : Int)) = false := decide_eq_false c23
                  clear c23
                  by_cases c36 : t113 = 0
                  · rw [if_pos c36] at H
                    have c36b0 : (t113 == 0) = true := beq_iff_eq.mpr c36
                    have c36b1 : (t113 != 0) = false := bne_eq_false_iff_eq.mpr c36
                    clear c36
                    obtain ⟨ji37, hji37⟩ : ∃ j_ : Int, (wrap64 ((l0.length : Int) - 1)) = j_ := ⟨_, rfl⟩
                    replace H : (if 0 ≤ (ji37) then (if (ji37) < (l0.length : Int) then (if 0 < (l0.length : Int) then (if (wrap64 (x9_2 + (t103.length : Int))) = (wrap64 ((rd l0 (ji37)) - (rd l0 0))) then ((diaphonelaw05_sane.f k2).bind fun t121 => (some t121)) else (some false)) else (none)) else (none)) else (none)) = some r := by first | (rw [hji37] at H; exact H) | (simp only [hji37] at H ⊢; exact H)
                    have hji37w : (IntKind.i64.wrap ((l0.length : Int) - 1)) = ji37 := (i64_w _).trans hji37
                    by_cases c38 : 0 ≤ (ji37)
                    · rw [if_pos c38] at H
                      have c38b0 : decide (0 ≤ (ji37)) = true := decide_eq_true c38
                      clear c38
                      by_cases c39 : (ji37) < (l0.length : Int)
                      · rw [if_pos c39] at H
                        have c39b0 : decide ((ji37) < (l0.length : Int)) = true := decide_eq_true c39
                        clear c39
                        by_cases c40 : 0 < (l0.length : Int)
                        · rw [if_pos c40] at H
                          have c40b0 : decide (0 < (l0.length : Int)) = true := decide_eq_true c40
                          have c40b1 : decide (0 < l0.length) = true := decide_eq_true (by omega)
                          clear c40
                          by_cases c41 : (wrap64 (x9_2 + (t103.length : Int))) = (wrap64 ((rd l0 (ji37)) - (rd l0 0)))
                          · rw [if_pos c41] at H
                            have c41b0 : ((wrap64 (x9_2 + (t103.length : Int))) == (wrap64 ((rd l0 (ji37)) - (rd l0 0)))) = true := beq_iff_eq.mpr c41
                            have c41b1 : ((wrap64 (x9_2 + (t103.length : Int))) != (wrap64 ((rd l0 (ji37)) - (rd l0 0)))) = false := bne_eq_false_iff_eq.mpr c41
                            clear c41
                            replace H := Option.bind_eq_some_iff.mp H
                            obtain ⟨t121, A420, H⟩ := H
                            replace H : (some t121) = some r := H
                            have A42 := Aside0.mk A420
                            clear A420
                            obtain rfl := Option.some.inj H
                            obtain ⟨Ao43, co43, eo43⟩ := Kd.R_slice HO_7.out
                            subst eo43
                            try go_wp2
                            have n0_ := Aside0.mk (Kd.R_drew HO_3.out)
                            have n1_ := Aside0.mk (Kd.R_drew HO_7.out)
                            have n2_ := Aside0.mk (below_drew1 HB.out)
                            clear HO_3
                            clear HO_7
                            clear HB
                            have HO_3 := n0_
                            have HO_7 := n1_
                            have HB := n2_
                            clear n0_ n1_ n2_
                            obtain ⟨Ao45, co45, eo45⟩ := Kd.R_slice HO_3.out
                            (first | subst eo45 | (injection eo45 with f1_ f2_ f3_; have f4_ := f1_.symm; have f5_ := f3_.symm; clear f1_ f2_ f3_; subst f4_; subst f5_))
                            have p119 : 0 ≤ ((ji37) : Int) := of_decide_eq_true (by first | (with_reducible assumption) | assumption)
                            have q119 : (ji37) < (l0.length : Int) := of_decide_eq_true (by first | (with_reducible assumption) | assumption)
                            obtain ⟨ad119, e119, hx119_0⟩ := Kd.at_int HR0.out (ji37) p119 q119
                            have hw119_0 := hx119_0
                            cases e119
                            replace hx119_0 := (HB.out.cell (World.block_lt_of_cell? w _ hx119_0)).trans hx119_0
                            replace p119 := eq_true p119
                            replace q119 := eq_true q119
                            have p120 : 0 ≤ (0 : Int) := (by omega)
                            have q120 : 0 < (l0.length : Int) := of_decide_eq_true (by first | (with_reducible assumption) | assumption)
                            obtain ⟨ad120, e120, hx120_0⟩ := Kd.at_int HR0.out 0 p120 q120
                            have hw120_0 := hx120_0
                            (try rw [show ((0 : Int)).toNat = 0 from rfl] at hw120_0)
                            (try rw [show 0 * 1 = 0 from rfl] at hw120_0)
                            (try rw [Addr.add_zero'] at hw120_0)
                            obtain rfl : ad119 = ad120 := (by injection e120)
                            have qi120 : (0 < l0.length) = True := eq_true (by omega)
                            (try rw [show ((0 : Int)).toNat = 0 from rfl] at hx120_0)
                            (try rw [Addr.add_zero'] at hx120_0)
                            replace hx120_0 := (HB.out.cell (World.block_lt_of_cell? w _ hx120_0)).trans hx120_0
                            replace p120 := eq_true p120
                            replace q120 := eq_true q120
                            refine start_ (n := 23) (S := fun w' => w'.cell? (ad119.add ((ji37)).toNat) = some (.int .i64 (rd l0 (ji37))) ∧ w'.cell? ad119 = some (.int .i64 (rd l0 0))) (ds := []) #[false, false, false, false, false, false, false, false, false, false, false, false, false, false, false, false, false, false, false, false, false, false, false] (by kernel_rfl) rfl rfl ⟨((HB.out.cell (World.block_lt_of_cell? w _ hw119_0)).trans hw119_0), ((HB.out.cell (World.block_lt_of_cell? w _ hw120_0)).trans hw120_0)⟩ (fun hHeld => ?_); refine with_tabW diaphonelaw05_EchoMissing.tab16 diaphonelaw05_EchoMissing.bits16 (fun HT_ HW_ => ?_)
                            generalize wr.drew = w44 at HO_3 HO_7 HB hx119_0 hx120_0 hHeld ⊢
                            refine pure_ (i := 0) (N := some 64) (v := ?_) (a' := ?_) #[true, false, false, false, false, false, false, false, false, false, false, false, false, false, false, false, false, false, false, false, false, false, false] rfl rfl (any_of HT_.out (by kernel_rfl)) (fun _ _ _ h => h) (Or.inl ⟨by rfl, ?_⟩) ?_ ?_
                            rotate_left
                            · intro w'
                              go_simp
                              with_reducible rfl
                            rotate_left
                            · simp only [Act.put, List.setIfInBounds_toArray, List.set_cons_zero, List.set_cons_succ, i64_w, i32_w]
                              rfl
                            refine pure_ (i := 1) (N := some 65) (v := ?_) (a' := ?_) #[true, true, false, false, false, false, false, false, false, false, false, false, false, false, false, false, false, false, false, false, false, false, false] rfl rfl (any_of HT_.out (by kernel_rfl)) (fun _ _ _ h => h) (Or.inl ⟨by rfl, ?_⟩) ?_ ?_
                            rotate_left
                            · intro w'
                              go_simp
                              with_reducible rfl
                            rotate_left
                            · simp only [Act.put, List.setIfInBounds_toArray, List.set_cons_zero, List.set_cons_succ, i64_w, i32_w]
                              rfl
                            refine pure_ (i := 2) (N := some 66) (v := ?_) (a' := ?_) #[true, true, true, false, false, false, false, false, false, false, false, false, false, false, false, false, false, false, false, false, false, false, false] rfl rfl (any_of HT_.out (by kernel_rfl)) (fun _ _ _ h => h) (Or.inl ⟨by rfl, ?_⟩) ?_ ?_
                            rotate_left
                            · intro w'
                              go_simp
                              with_reducible rfl
                            rotate_left
                            · simp only [Act.put, List.setIfInBounds_toArray, List.set_cons_zero, List.set_cons_succ, i64_w, i32_w]
                              rfl
                            refine pure_ (i := 3) (N := some 67) (v := ?_) (a' := ?_) #[true, true, true, true, false, false, false, false, false, false, false, false, false, false, false, false, false, false, false, false, false, false, false] rfl rfl (any_of HT_.out (by kernel_rfl)) (fun _ _ _ h => h) (Or.inl ⟨by rfl, ?_⟩) ?_ ?_
                            rotate_left
                            · intro w'
                              go_simp
                              with_reducible rfl
                            rotate_left
                            · simp only [Act.put, List.setIfInBounds_toArray, List.set_cons_zero, List.set_cons_succ, i64_w, i32_w]
                              rfl
                            refine pure_ (i := 4) (N := some 68) (v := ?_) (a' := ?_) #[true, true, true, true, true, false, false, false, false, false, false, false, false, false, false, false, false, false, false, false, false, false, false] rfl rfl (any_of HT_.out (by kernel_rfl)) (fun _ _ _ h => h) (Or.inl ⟨by rfl, ?_⟩) ?_ ?_
                            rotate_left
                            · intro w'
                              go_simp
                              with_reducible rfl
                            rotate_left
                            · simp only [Act.put, List.setIfInBounds_toArray, List.set_cons_zero, List.set_cons_succ, i64_w, i32_w]
                              rfl
                            refine pure_ (i := 5) (N := some 69) (v := ?_) (a' := ?_) #[true, true, true, true, true, true, false, false, false, false, false, false, false, false, false, false, false, false, false, false, false, false, false] rfl rfl (any_of HT_.out (by kernel_rfl)) (fun _ _ _ h => h) (Or.inl ⟨by rfl, ?_⟩) ?_ ?_
                            rotate_left
                            · intro w'
                              go_simp
                              with_reducible rfl
                            rotate_left
                            · simp only [Act.put, List.setIfInBounds_toArray, List.set_cons_zero, List.set_cons_succ, i64_w, i32_w]
                              rfl
                            refine pure_ (i := 6) (N := some 70) (v := ?_) (a' := ?_) #[true, true, true, true, true, true, true, false, false, false, false, false, false, false, false, false, false, false, false, false, false, false, false] rfl rfl (any_of HT_.out (by kernel_rfl)) (fun _ _ _ h => h) (Or.inl ⟨by rfl, ?_⟩) ?_ ?_
                            rotate_left
                            · intro w'
                              go_simp
                              with_reducible rfl
                            rotate_left
                            · simp only [Act.put, List.setIfInBounds_toArray, List.set_cons_zero, List.set_cons_succ, i64_w, i32_w]
                              rfl
                            refine pure_ (i := 7) (N := some 71) (v := ?_) (a' := ?_) #[true, true, true, true, true, true, true, true, false, false, false, false, false, false, false, false, false, false, false, false, false, false, false] rfl rfl (any_of HT_.out (by kernel_rfl)) (fun _ _ _ h => h) (Or.inl ⟨by rfl, ?_⟩) ?_ ?_
                            rotate_left
                            · intro w'
                              go_simp
                              with_reducible rfl
                            rotate_left
                            · simp only [Act.put, List.setIfInBounds_toArray, List.set_cons_zero, List.set_cons_succ, i64_w, i32_w]
                              rfl
                            refine pure_ (i := 8) (N := some 72) (v := ?_) (a' := ?_) #[true, true, true, true, true, true, true, true, true, false, false, false, false, false, false, false, false, false, false, false, false, false, false] rfl rfl (any_of HT_.out (by kernel_rfl)) (fun _ _ _ h => h) (Or.inl ⟨by rfl, ?_⟩) ?_ ?_
                            rotate_left
                            · intro w'
                              go_simp
                              with_reducible rfl
                            rotate_left
                            · simp only [Act.put, List.setIfInBounds_toArray, List.set_cons_zero, List.set_cons_succ, i64_w, i32_w]
                              rfl
                            refine pure_ (i := 9) (N := some 73) (v := ?_) (a' := ?_) #[true, true, true, true, true, true, true, true, true, true, false, false, false, false, false, false, false, false, false, false, false, false, false] rfl rfl (any_of HT_.out (by kernel_rfl)) (fun _ _ _ h => h) (Or.inl ⟨by rfl, ?_⟩) ?_ ?_
                            rotate_left
                            · intro w'
                              go_simp
                              with_reducible rfl
                            rotate_left
                            · simp only [Act.put, List.setIfInBounds_toArray, List.set_cons_zero, List.set_cons_succ, i64_w, i32_w]
                              rfl
                            refine pure_ (i := 10) (N := some 74) (v := ?_) (a' := ?_) #[true, true, true, true, true, true, true, true, true, true, true, false, false, false, false, false, false, false, false, false, false, false, false] rfl rfl (any_of HT_.out (by kernel_rfl)) (fun _ _ _ h => h) (Or.inl ⟨by rfl, ?_⟩) ?_ ?_
                            rotate_left
                            · intro w'
                              go_simp
                              with_reducible rfl
                            rotate_left
                            · simp only [Act.put, List.setIfInBounds_toArray, List.set_cons_zero, List.set_cons_succ, i64_w, i32_w]
                              rfl
                            refine pure_ (i := 11) (N := some 75) (v := ?_) (a' := ?_) #[true, true, true, true, true, true, true, true, true, true, true, true, false, false, false, false, false, false, false, false, false, false, false] rfl rfl (any_of HT_.out (by kernel_rfl)) (fun _ _ _ h => h) (Or.inl ⟨by rfl, ?_⟩) ?_ ?_
                            rotate_left
                            · intro w'
                              go_simp
                              with_reducible rfl
                            rotate_left
                            · simp only [Act.put, List.setIfInBounds_toArray, List.set_cons_zero, List.set_cons_succ, i64_w, i32_w]
                              rfl
                            refine pure_ (i := 13) (N := some 77) (v := ?_) (a' := ?_) #[true, true, true, true, true, true, true, true, true, true, true, true, false, true, false, false, false, false, false, false, false, false, false] rfl rfl (any_of HT_.out (by kernel_rfl)) (fun _ _ _ h => h) (Or.inl ⟨by rfl, ?_⟩) ?_ ?_
                            rotate_left
                            · intro w'
                              go_simp
                              with_reducible rfl
                            rotate_left
                            · simp only [Act.put, List.setIfInBounds_toArray, List.set_cons_zero, List.set_cons_succ, i64_w, i32_w]
                              rfl
                            refine pure_ (i := 14) (N := some 78) (v := ?_) (a' := ?_) #[true, true, true, true, true, true, true, true, true, true, true, true, false, true, true, false, false, false, false, false, false, false, false] rfl rfl (any_of HT_.out (by kernel_rfl)) (fun _ _ _ h => h) (Or.inl ⟨by rfl, ?_⟩) ?_ ?_
                            rotate_left
                            · intro w'
                              go_simp
                              with_reducible rfl
                            rotate_left
                            · simp only [Act.put, List.setIfInBounds_toArray, List.set_cons_zero, List.set_cons_succ, i64_w, i32_w]
                              rfl
                            refine take_ (i := 12) (N := some 76) (v := ?_) (a' := ?_) #[true, true, true, true, true, true, true, true, true, true, true, true, true, true, true, false, false, false, false, false, false, false, false] rfl rfl (take_ofW HT_.out HW_.out (by kernel_rfl)) (fun _ _ _ h => h) (Or.inl ⟨by rfl, ?_⟩) hHeld ?_ ?_
                            rotate_left
                            · rintro w' ⟨s0, s1⟩
                              go_simp
                              with_reducible rfl
                            rotate_left
                            · simp only [Act.put, List.setIfInBounds_toArray, List.set_cons_zero, List.set_cons_succ, i64_w, i32_w]
                              rfl
                            refine take_ (i := 15) (N := some 79) (v := ?_) (a' := ?_) #[true, true, true, true, true, true, true, true, true, true, true, true, true, true, true, true, false, false, false, false, false, false, false] rfl rfl (take_ofW HT_.out HW_.out (by kernel_rfl)) (fun _ _ _ h => h) (Or.inl ⟨by rfl, ?_⟩) hHeld ?_ ?_
                            rotate_left
                            · rintro w' ⟨s0, s1⟩
                              go_simp
                              with_reducible rfl
                            rotate_left
                            · simp only [Act.put, List.setIfInBounds_toArray, List.set_cons_zero, List.set_cons_succ, i64_w, i32_w]
                              rfl
                            refine pure_ (i := 16) (N := some 80) (v := ?_) (a' := ?_) #[true, true, true, true, true, true, true, true, true, true, true, true, true, true, true, true, true, false, false, false, false, false, false] rfl rfl (any_of HT_.out (by kernel_rfl)) (fun _ _ _ h => h) (Or.inl ⟨by rfl, ?_⟩) ?_ ?_
                            rotate_left
                            · intro w'
                              go_simp
                              with_reducible rfl
                            rotate_left
                            · simp only [Act.put, List.setIfInBounds_toArray, List.set_cons_zero, List.set_cons_succ, i64_w, i32_w]
                              rfl
                            refine pure_ (i := 17) (N := some 81) (v := ?_) (a' := ?_) #[true, true, true, true, true, true, true, true, true, true, true, true, true, true, true, true, true, true, false, false, false, false, false] rfl rfl (any_of HT_.out (by kernel_rfl)) (fun _ _ _ h => h) (Or.inl ⟨by rfl, ?_⟩) ?_ ?_
                            rotate_left
                            · intro w'
                              go_simp
                              with_reducible rfl
                            rotate_left
                            · simp only [Act.put, List.setIfInBounds_toArray, List.set_cons_zero, List.set_cons_succ, i64_w, i32_w]
                              rfl
                            refine pure_ (i := 18) (N := some 82) (v := ?_) (a' := ?_) #[true, true, true, true, true, true, true, true, true, true, true, true, true, true, true, true, true, true, true, false, false, false, false] rfl rfl (any_of HT_.out (by kernel_rfl)) (fun _ _ _ h => h) (Or.inl ⟨by rfl, ?_⟩) ?_ ?_
                            rotate_left
                            · intro w'
                              go_simp
                              with_reducible rfl
                            rotate_left
                            · simp only [Act.put, List.setIfInBounds_toArray, List.set_cons_zero, List.set_cons_succ, i64_w, i32_w]
                              rfl
                            refine pure_ (i := 19) (N := some 83) (v := ?_) (a' := ?_) #[true, true, true, true, true, true, true, true, true, true, true, true, true, true, true, true, true, true, true, true, false, false, false] rfl rfl (any_of HT_.out (by kernel_rfl)) (fun _ _ _ h => h) (Or.inl ⟨by rfl, ?_⟩) ?_ ?_
                            rotate_left
                            · intro w'
                              go_simp
                              with_reducible rfl
                            rotate_left
                            · simp only [Act.put, List.setIfInBounds_toArray, List.set_cons_zero, List.set_cons_succ, i64_w, i32_w]
                              rfl
                            refine one_ (i := 20) (N := some 84) #[true, true, true, true, true, true, true, true, true, true, true, true, true, true, true, true, true, true, true, true, true, false, false] rfl rfl (one_of HT_.out (by kernel_rfl)) (by decide) (fun K hK => ?_)
                            refine goes_ Try.func16 (by kernel_rfl) rfl #[] (by rfl) rfl rfl (by (try simp only [List.map_toArray, List.map_cons, List.map_nil]); first | done | rfl | (simp only [List.length_drop, List.length_take]; rfl)) ?_
                            with_reducible refine (diaphonelaw05_sane.calls k2  t121 _ A42.out).mono ?_
                            rintro e w46 ⟨rfl, hb⟩
                            refine ⟨_, rfl, ?_⟩
                            have n0_ := Aside0.mk (Kd.R_below (by (with_reducible repeat (first | apply Kd.R_alloc | apply Kd.R_drewN | apply Kd.R_drew)); exact HO_3.out) hb)
                            have n1_ := Aside0.mk (Kd.R_below (by (with_reducible repeat (first | apply Kd.R_alloc | apply Kd.R_drewN | apply Kd.R_drew)); exact HO_7.out) hb)
                            have n2_ := Aside0.mk (below_step (by repeat (first | (with_reducible first | exact HB.out | apply below_alloc | apply pw_below_drewN | apply below_drew1) | exact HB.out)) hb)
                            clear HO_3
                            clear HO_7
                            clear HB
                            have HO_3 := n0_
                            have HO_7 := n1_
                            have HB := n2_
                            clear n0_ n1_ n2_
                            (try clear hb)
                            (try clear hb2)
                            (try clear hk)
                            (try clear hi)
                            refine hK.out _ _ ⟨((HB.out.cell (World.block_lt_of_cell? w _ hw119_0)).trans hw119_0), ((HB.out.cell (World.block_lt_of_cell? w _ hw120_0)).trans hw120_0)⟩ (fun hHeld => ?_)
                            clear hK K
                            refine norm_ (a' := ?_) ?_ ?_
                            rotate_left
                            · show Act.put _ (some 84) _ = _
                              simp only [Act.put, List.setIfInBounds_toArray, List.set_cons_zero, List.set_cons_succ, i64_w, i32_w]
                              rfl
                            refine pure_ (i := 21) (N := some 85) (v := ?_) (a' := ?_) #[true, true, true, true, true, true, true, true, true, true, true, true, true, true, true, true, true, true, true, true, true, true, false] rfl rfl (any_of HT_.out (by kernel_rfl)) (fun _ _ _ h => h) (Or.inl ⟨by rfl, ?_⟩) ?_ ?_
                            rotate_left
                            · intro w'
                              go_simp
                              with_reducible rfl
                            rotate_left
                            · simp only [Act.put, List.setIfInBounds_toArray, List.set_cons_zero, List.set_cons_succ, i64_w, i32_w]
                              rfl
                            refine pure_ (i := 22) (N := some 2) (v := ?_) (a' := ?_) #[true, true, true, true, true, true, true, true, true, true, true, true, true, true, true, true, true, true, true, true, true, true, true] rfl rfl (any_of HT_.out (by kernel_rfl)) (fun _ _ _ h => h) (Or.inl ⟨by rfl, ?_⟩) ?_ ?_
                            rotate_left
                            · intro w'
                              go_simp
                              with_reducible rfl
                            rotate_left
                            · simp only [Act.put, List.setIfInBounds_toArray, List.set_cons_zero, List.set_cons_succ, i64_w, i32_w]
                              rfl
                            refine done_ (done_of HT_.out (by kernel_rfl)) ?_
                            try go_wp2
                            go_ret
                            exact ⟨by first | rfl | (simp [errW_none, errW_some] <;> rfl) | (simp only [← hji37]; first | rfl | (simp [errW_none, errW_some] <;> rfl)) | (simp [*, errW_none, errW_some] <;> rfl), by repeat (first | (with_reducible first | exact HB.out | apply below_alloc | apply pw_below_drewN | apply below_drew1) | exact HB.out)⟩
                          · rw [if_neg c41] at H
                            have c41b0 : ((wrap64 (x9_2 + (t103.length : Int))) == (wrap64 ((rd l0 (ji37)) - (rd l0 0)))) = false := beq_eq_false_iff_ne.mpr c41
                            have c41b1 : ((wrap64 (x9_2 + (t103.length : Int))) != (wrap64 ((rd l0 (ji37)) - (rd l0 0)))) = true := bne_iff_ne.mpr c41
                            exact absurd (Option.some.inj H) (by rw [HRT.out]; decide)
                        · rw [if_neg c40] at H
                          exact absurd H (by simp)
                      · rw [if_neg c39] at H
                        exact absurd H (by simp)
                    · rw [if_neg c38] at H
                      exact absurd H (by simp)
                  · rw [if_neg c36] at H
                    have c36b0 : (t113 == 0) = false := beq_eq_false_iff_ne.mpr c36
                    have c36b1 : (t113 != 0) = true := bne_iff_ne.mpr c36
                    obtain rfl := Option.some.inj H
                    obtain ⟨Ao50, co50, eo50⟩ := Kd.R_slice HO_7.out
                    subst eo50
                    try go_wp2
                    have n0_ := Aside0.mk (Kd.R_drew HO_3.out)
                    have n1_ := Aside0.mk (Kd.R_drew HO_7.out)
                    have n2_ := Aside0.mk (below_drew1 HB.out)
                    clear HO_3
                    clear HO_7
                    clear HB
                    have HO_3 := n0_
                    have HO_7 := n1_
                    have HB := n2_
                    clear n0_ n1_ n2_
                    refine start_ (n := 23) (S := fun w' => True) (ds := []) #[false, false, false, false, false, false, false, false, false, false, false, false, false, false, false, false, false, false, false, false, false, false, false] (by kernel_rfl) rfl rfl trivial (fun hHeld => ?_); refine with_tabW diaphonelaw05_EchoMissing.tab16 diaphonelaw05_EchoMissing.bits16 (fun HT_ HW_ => ?_)
                    generalize wr.drew = w51 at HO_3 HO_7 HB hHeld ⊢
                    refine pure_ (i := 0) (N := some 64) (v := ?_) (a' := ?_) #[true, false, false, false, false, false, false, false, false, false, false, false, false, false, false, false, false, false, false, false, false, false, false] rfl rfl (any_of HT_.out (by kernel_rfl)) (fun _ _ _ h => h) (Or.inl ⟨by rfl, ?_⟩) ?_ ?_
                    rotate_left
                    · intro w'
                      go_simp
                      with_reducible rfl
                    rotate_left
                    · simp only [Act.put, List.setIfInBounds_toArray, List.set_cons_zero, List.set_cons_succ, i64_w, i32_w]
                      rfl
                    refine pure_ (i := 1) (N := some 65) (v := ?_) (a' := ?_) #[true, true, false, false, false, false, false, false, false, false, false, false, false, false, false, false, false, false, false, false, false, false, false] rfl rfl (any_of HT_.out (by kernel_rfl)) (fun _ _ _ h => h) (Or.inl ⟨by rfl, ?_⟩) ?_ ?_
                    rotate_left
                    · intro w'
                      go_simp
                      with_reducible rfl
                    rotate_left
                    · simp only [Act.put, List.setIfInBounds_toArray, List.set_cons_zero, List.set_cons_succ, i64_w, i32_w]
                      rfl
                    refine pure_ (i := 2) (N := some 66) (v := ?_) (a' := ?_) #[true, true, true, false, false, false, false, false, false, false, false, false, false, false, false, false, false, false, false, false, false, false, false] rfl rfl (any_of HT_.out (by kernel_rfl)) (fun _ _ _ h => h) (Or.inl ⟨by rfl, ?_⟩) ?_ ?_
                    rotate_left
                    · intro w'
                      go_simp
                      with_reducible rfl
                    rotate_left
                    · simp only [Act.put, List.setIfInBounds_toArray, List.set_cons_zero, List.set_cons_succ, i64_w, i32_w]
                      rfl
                    refine pure_ (i := 3) (N := some 67) (v := undef) (a' := ?_) #[true, true, true, true, false, false, false, false, false, false, false, false, false, false, false, false, false, false, false, false, false, false, false] rfl rfl (any_of HT_.out (by kernel_rfl)) (fun _ _ _ h => h) (Or.inr ⟨by rfl, rfl⟩) ?_ ?_
                    rotate_left
                    · simp only [Act.put, List.setIfInBounds_toArray, List.set_cons_zero, List.set_cons_succ, i64_w, i32_w]
                      rfl
                    refine pure_ (i := 4) (N := some 68) (v := undef) (a' := ?_) #[true, true, true, true, true, false, false, false, false, false, false, false, false, false, false, false, false, false, false, false, false, false, false] rfl rfl (any_of HT_.out (by kernel_rfl)) (fun _ _ _ h => h) (Or.inr ⟨by rfl, rfl⟩) ?_ ?_
                    rotate_left
                    · simp only [Act.put, List.setIfInBounds_toArray, List.set_cons_zero, List.set_cons_succ, i64_w, i32_w]
                      rfl
                    refine pure_ (i := 5) (N := some 69) (v := undef) (a' := ?_) #[true, true, true, true, true, true, false, false, false, false, false, false, false, false, false, false, false, false, false, false, false, false, false] rfl rfl (any_of HT_.out (by kernel_rfl)) (fun _ _ _ h => h) (Or.inr ⟨by rfl, rfl⟩) ?_ ?_
                    rotate_left
                    · simp only [Act.put, List.setIfInBounds_toArray, List.set_cons_zero, List.set_cons_succ, i64_w, i32_w]
                      rfl
                    refine pure_ (i := 6) (N := some 70) (v := undef) (a' := ?_) #[true, true, true, true, true, true, true, false, false, false, false, false, false, false, false, false, false, false, false, false, false, false, false] rfl rfl (any_of HT_.out (by kernel_rfl)) (fun _ _ _ h => h) (Or.inr ⟨by rfl, rfl⟩) ?_ ?_
                    rotate_left
                    · simp only [Act.put, List.setIfInBounds_toArray, List.set_cons_zero, List.set_cons_succ, i64_w, i32_w]
                      rfl
                    refine pure_ (i := 7) (N := some 71) (v := undef) (a' := ?_) #[true, true, true, true, true, true, true, true, false, false, false, false, false, false, false, false, false, false, false, false, false, false, false] rfl rfl (any_of HT_.out (by kernel_rfl)) (fun _ _ _ h => h) (Or.inr ⟨by rfl, rfl⟩) ?_ ?_
                    rotate_left
                    · simp only [Act.put, List.setIfInBounds_toArray, List.set_cons_zero, List.set_cons_succ, i64_w, i32_w]
                      rfl
                    refine pure_ (i := 8) (N := some 72) (v := undef) (a' := ?_) #[true, true, true, true, true, true, true, true, true, false, false, false, false, false, false, false, false, false, false, false, false, false, false] rfl rfl (any_of HT_.out (by kernel_rfl)) (fun _ _ _ h => h) (Or.inr ⟨by rfl, rfl⟩) ?_ ?_
                    rotate_left
                    · simp only [Act.put, List.setIfInBounds_toArray, List.set_cons_zero, List.set_cons_succ, i64_w, i32_w]
                      rfl
                    refine pure_ (i := 9) (N := some 73) (v := undef) (a' := ?_) #[true, true, true, true, true, true, true, true, true, true, false, false, false, false, false, false, false, false, false, false, false, false, false] rfl rfl (any_of HT_.out (by kernel_rfl)) (fun _ _ _ h => h) (Or.inr ⟨by rfl, rfl⟩) ?_ ?_
                    rotate_left
                    · simp only [Act.put, List.setIfInBounds_toArray, List.set_cons_zero, List.set_cons_succ, i64_w, i32_w]
                      rfl
                    refine pure_ (i := 10) (N := some 74) (v := undef) (a' := ?_) #[true, true, true, true, true, true, true, true, true, true, true, false, false, false, false, false, false, false, false, false, false, false, false] rfl rfl (any_of HT_.out (by kernel_rfl)) (fun _ _ _ h => h) (Or.inr ⟨by rfl, rfl⟩) ?_ ?_
                    rotate_left
                    · simp only [Act.put, List.setIfInBounds_toArray, List.set_cons_zero, List.set_cons_succ, i64_w, i32_w]
                      rfl
                    refine pure_ (i := 11) (N := some 75) (v := undef) (a' := ?_) #[true, true, true, true, true, true, true, true, true, true, true, true, false, false, false, false, false, false, false, false, false, false, false] rfl rfl (any_of HT_.out (by kernel_rfl)) (fun _ _ _ h => h) (Or.inr ⟨by rfl, rfl⟩) ?_ ?_
                    rotate_left
                    · simp only [Act.put, List.setIfInBounds_toArray, List.set_cons_zero, List.set_cons_succ, i64_w, i32_w]
                      rfl
                    refine pure_ (i := 12) (N := some 76) (v := undef) (a' := ?_) #[true, true, true, true, true, true, true, true, true, true, true, true, true, false, false, false, false, false, false, false, false, false, false] rfl rfl (any_of HT_.out (by kernel_rfl)) (fun _ _ _ h => h) (Or.inr ⟨by rfl, rfl⟩) ?_ ?_
                    rotate_left
                    · simp only [Act.put, List.setIfInBounds_toArray, List.set_cons_zero, List.set_cons_succ, i64_w, i32_w]
                      rfl
                    refine pure_ (i := 13) (N := some 77) (v := undef) (a' := ?_) #[true, true, true, true, true, true, true, true, true, true, true, true, true, true, false, false, false, false, false, false, false, false, false] rfl rfl (any_of HT_.out (by kernel_rfl)) (fun _ _ _ h => h) (Or.inr ⟨by rfl, rfl⟩) ?_ ?_
                    rotate_left
                    · simp only [Act.put, List.setIfInBounds_toArray, List.set_cons_zero, List.set_cons_succ, i64_w, i32_w]
                      rfl
                    refine pure_ (i := 14) (N := some 78) (v := undef) (a' := ?_) #[true, true, true, true, true, true, true, true, true, true, true, true, true, true, true, false, false, false, false, false, false, false, false] rfl rfl (any_of HT_.out (by kernel_rfl)) (fun _ _ _ h => h) (Or.inr ⟨by rfl, rfl⟩) ?_ ?_
                    rotate_left
                    · simp only [Act.put, List.setIfInBounds_toArray, List.set_cons_zero, List.set_cons_succ, i64_w, i32_w]
                      rfl
                    refine pure_ (i := 15) (N := some 79) (v := undef) (a' := ?_) #[true, true, true, true, true, true, true, true, true, true, true, true, true, true, true, true, false, false, false, false, false, false, false] rfl rfl (any_of HT_.out (by kernel_rfl)) (fun _ _ _ h => h) (Or.inr ⟨by rfl, rfl⟩) ?_ ?_
                    rotate_left
                    · simp only [Act.put, List.setIfInBounds_toArray, List.set_cons_zero, List.set_cons_succ, i64_w, i32_w]
                      rfl
                    refine pure_ (i := 16) (N := some 80) (v := undef) (a' := ?_) #[true, true, true, true, true, true, true, true, true, true, true, true, true, true, true, true, true, false, false, false, false, false, false] rfl rfl (any_of HT_.out (by kernel_rfl)) (fun _ _ _ h => h) (Or.inr ⟨by rfl, rfl⟩) ?_ ?_
                    rotate_left
                    · simp only [Act.put, List.setIfInBounds_toArray, List.set_cons_zero, List.set_cons_succ, i64_w, i32_w]
                      rfl
                    refine pure_ (i := 17) (N := some 81) (v := undef) (a' := ?_) #[true, true, true, true, true, true, true, true, true, true, true, true, true, true, true, true, true, true, false, false, false, false, false] rfl rfl (any_of HT_.out (by kernel_rfl)) (fun _ _ _ h => h) (Or.inr ⟨by rfl, rfl⟩) ?_ ?_
                    rotate_left
                    · simp only [Act.put, List.setIfInBounds_toArray, List.set_cons_zero, List.set_cons_succ, i64_w, i32_w]
                      rfl
                    refine pure_ (i := 18) (N := some 82) (v := ?_) (a' := ?_) #[true, true, true, true, true, true, true, true, true, true, true, true, true, true, true, true, true, true, true, false, false, false, false] rfl rfl (any_of HT_.out (by kernel_rfl)) (fun _ _ _ h => h) (Or.inl ⟨by rfl, ?_⟩) ?_ ?_
                    rotate_left
                    · intro w'
                      go_simp
                      with_reducible rfl
                    rotate_left
                    · simp only [Act.put, List.setIfInBounds_toArray, List.set_cons_zero, List.set_cons_succ, i64_w, i32_w]
                      rfl
                    refine pure_ (i := 19) (N := some 83) (v := ?_) (a' := ?_) #[true, true, true, true, true, true, true, true, true, true, true, true, true, true, true, true, true, true, true, true, false, false, false] rfl rfl (any_of HT_.out (by kernel_rfl)) (fun _ _ _ h => h) (Or.inl ⟨by rfl, ?_⟩) ?_ ?_
                    rotate_left
                    · intro w'
                      go_simp
                      with_reducible rfl
                    rotate_left
                    · simp only [Act.put, List.setIfInBounds_toArray, List.set_cons_zero, List.set_cons_succ, i64_w, i32_w]
                      rfl
                    refine pure_ (i := 20) (N := some 84) (v := undef) (a' := ?_) #[true, true, true, true, true, true, true, true, true, true, true, true, true, true, true, true, true, true, true, true, true, false, false] rfl rfl (any_of HT_.out (by kernel_rfl)) (fun _ _ _ h => h) (Or.inr ⟨by rfl, rfl⟩) ?_ ?_
                    rotate_left
                    · simp only [Act.put, List.setIfInBounds_toArray, List.set_cons_zero, List.set_cons_succ, i64_w, i32_w]
                      rfl
                    refine pure_ (i := 21) (N := some 85) (v := ?_) (a' := ?_) #[true, true, true, true, true, true, true, true, true, true, true, true, true, true, true, true, true, true, true, true, true, true, false] rfl rfl (any_of HT_.out (by kernel_rfl)) (fun _ _ _ h => h) (Or.inl ⟨by rfl, ?_⟩) ?_ ?_
                    rotate_left
                    · intro w'
                      go_simp
                      with_reducible rfl
                    rotate_left
                    · simp only [Act.put, List.setIfInBounds_toArray, List.set_cons_zero, List.set_cons_succ, i64_w, i32_w]
                      rfl
                    refine pure_ (i := 22) (N := some 2) (v := ?_) (a' := ?_) #[true, true, true, true, true, true, true, true, true, true, true, true, true, true, true, true, true, true, true, true, true, true, true] rfl rfl (any_of HT_.out (by kernel_rfl)) (fun _ _ _ h => h) (Or.inl ⟨by rfl, ?_⟩) ?_ ?_
                    rotate_left
                    · intro w'
                      go_simp
                      with_reducible rfl
                    rotate_left
                    · simp only [Act.put, List.setIfInBounds_toArray, List.set_cons_zero, List.set_cons_succ, i64_w, i32_w]
                      rfl
                    refine done_ (done_of HT_.out (by kernel_rfl)) ?_
                    try go_wp2
                    go_ret
                    exact ⟨by first | rfl | (simp [errW_none, errW_some] <;> rfl) | (simp [*, errW_none, errW_some] <;> rfl), by repeat (first | (with_reducible first | exact HB.out | apply below_alloc | apply pw_below_drewN | apply below_drew1) | exact HB.out)⟩
          · rw [if_neg c21] at H
            have c21b0 : (t104 == 0) = false := beq_eq_false_iff_ne.mpr c21
            have c21b1 : (t104 != 0) = true := bne_iff_ne.mpr c21
            replace H := Option.bind_eq_some_iff.mp H
            obtain ⟨t116, A520, H⟩ := H
            replace H : (some t116) = some r := H
            have A52 := Aside0.mk A520
            clear A520
            obtain rfl := Option.some.inj H
            go_wp2_with (first | ((with_reducible refine gate_callee (f := 17) rfl ?_); refine goesL_ (some 36) rfl rfl Try.func17 (by kernel_rfl) rfl #[.slice A0 l0.length c0] rfl (by (try simp only [List.map_toArray, List.map_cons, List.map_nil]); first | done | rfl | (simp only [List.length_drop, List.length_take]; rfl)) ?_; (with_reducible refine (echo_Delays.calls kj8 _ _ l0 t112 t113 _ ?side1 ?side2 A20.out).mono ?_); (case side1 => repeat (first | exact (Kd.C_below HR0.out HB.out) | (with_reducible refine Kd.C_alloc ?_ _) | (with_reducible refine Kd.C_drewN ?_ _) | (with_reducible refine Kd.C_drew ?_))); (case side2 => exact HC0.out); rintro e w53 ⟨v114, rfl, ho0, hb⟩; refine ⟨_, rfl, ?_⟩; have n0_ := Aside0.mk (Kd.R_elder' (by (with_reducible repeat (first | apply Kd.R_alloc | apply Kd.R_drewN | apply Kd.R_drew)); exact HO_3.out) (Kd.R_base ho0) hb); have n1_ := Aside0.mk (Kd.R_lower (Kd.R_new' ho0 (Kd.R_lt (by (with_reducible repeat (first | apply Kd.R_alloc | apply Kd.R_drewN | apply Kd.R_drew)); exact HO_3.out))) (below_size (by repeat (first | (with_reducible first | exact HB.out | apply below_alloc | apply pw_below_drewN | apply below_drew1) | exact HB.out)))); have n2_ := Aside0.mk (below_step (by repeat (first | (with_reducible first | exact HB.out | apply below_alloc | apply pw_below_drewN | apply below_drew1) | exact HB.out)) hb); clear HO_3; clear HB; have HO_3 := n0_; have HO115 := n1_; have HB := n2_; clear n0_ n1_ n2_; (try clear hb); (try clear hb2); (try clear hk); (try clear hi); (try clear ho0)) | ((with_reducible refine gate_callee (f := 16) rfl ?_); refine goesL_ (some 41) rfl rfl Try.func16 (by kernel_rfl) rfl #[] rfl (by (try simp only [List.map_toArray, List.map_cons, List.map_nil]); first | done | rfl | (simp only [List.length_drop, List.length_take]; rfl)) ?_; (with_reducible refine (diaphonelaw05_sane.calls kj8  t116 _ A52.out).mono ?_); rintro e w54 ⟨rfl, hb⟩; refine ⟨_, rfl, ?_⟩; have n0_ := Aside0.mk (Kd.R_below (by (with_reducible repeat (first | apply Kd.R_alloc | apply Kd.R_drewN | apply Kd.R_drew)); exact HO_3.out) hb); have n1_ := Aside0.mk (Kd.R_below (by (with_reducible repeat (first | apply Kd.R_alloc | apply Kd.R_drewN | apply Kd.R_drew)); exact HO115.out) hb); have n2_ := Aside0.mk (below_step (by repeat (first | (with_reducible first | exact HB.out | apply below_alloc | apply pw_below_drewN | apply below_drew1) | exact HB.out)) hb); clear HO_3; clear HO115; clear HB; have HO_3 := n0_; have HO115 := n1_; have HB := n2_; clear n0_ n1_ n2_; (try clear hb); (try clear hb2); (try clear hk); (try clear hi)))
            go_ret
            exact ⟨by first | rfl | (simp [errW_none, errW_some] <;> rfl) | (simp [*, errW_none, errW_some] <;> rfl), by repeat (first | (with_reducible first | exact HB.out | apply below_alloc | apply pw_below_drewN | apply below_drew1) | exact HB.out)⟩

/-- THE ONE PURE STATEMENT of diaphonelaw05_EchoMissing: yours. -/
def diaphonelaw05_EchoMissing.Pure : Prop := ∀ (l0 : List Int), l0.length ≤ maxLen → l0.length * 8 ≤ 140737488351232 → (∀ x ∈ l0, (Lit.int .i64 x).wf = true) → ∃ k, diaphonelaw05_EchoMissing.f k l0 = some true
theorem diaphonelaw05_EchoMissing.walk (P : diaphonelaw05_EchoMissing.Pure) (a0 : Option Addr) (len0 cap0 : Nat) (z0 : List Int) (w : World) (w0 : (a0 = none ∧ len0 = 0 ∧ cap0 = 0 ∧ z0 = []) ∨ ∃ x, a0 = some x ∧ len0 ≤ cap0 ∧ cap0 ≤ maxLen ∧ z0.length = cap0 ∧ (∀ i, i < z0.length → w.cell? (x.add i) = some (.int .i64 (z0.getD i 0))) ∧ ∀ n ∈ z0, (Lit.int .i64 n).wf = true) (y0 : len0 * 8 ≤ 140737488351232) :
    Calls Try.prog 9 #[.slice a0 len0 cap0] w fun e w' => e = .returned (.bool true) ∧ Below w.heap.size w w' := by
  obtain ⟨l0, rfl, hr0, hm0, hw0, hc0⟩ := ReadsInt.ofRowC w0
  obtain ⟨k, h⟩ := P l0 hm0 y0 hw0
  refine (diaphonelaw05_EchoMissing.calls k _ _ l0 true rfl w (Kd.C_of_reads (d := (0 : Int)) (h1 := fun _ => rfl) hr0) hc0 h).mono ?_
  rintro e w' ⟨rfl, hd⟩
  exact ⟨rfl, hd⟩

end Go.Proofs.Ytlbhedhbakhhlaa.Q

/- Words for the plain laws: what a printed function has as its result from some number of rounds on. -/
namespace Go.Proofs.Ytlbhedhbakhhlaa.Q
open Go.RowKit Go.Proofs.YtlbhedhbakhhlaaW.PrintWords Go.Proofs.YtlbhedhbakhhlaaW.PrintLast Go.Proofs.YtlbhedhbakhhlaaW.PrintMore

theorem Ev.pure {α : Type} (r : α) : Ev (fun _ => some r) r := ⟨0, fun _ _ => rfl⟩
theorem Ev.of {α : Type} {f : Nat → Option α} {r : α} (K : Nat) (h : ∀ k, K ≤ k → f k = some r) : Ev f r := ⟨K, h⟩
theorem Ev.step {α : Type} {f g : Nat → Option α} {r : α} (hg : Ev g r) (h : ∀ k, f (k + 1) = g k) : Ev f r := by
  obtain ⟨K, hK⟩ := hg
  refine ⟨K + 1, fun k hk => ?_⟩
  obtain ⟨j, rfl⟩ : ∃ j, k = j + 1 := ⟨k - 1, by omega⟩
  rw [h]
  exact hK j (by omega)
theorem Ev.congr {α : Type} {f g : Nat → Option α} {r : α} (hg : Ev g r) (h : ∀ k, f k = g k) : Ev f r := by
  obtain ⟨K, hK⟩ := hg
  exact ⟨K, fun k hk => by rw [h]; exact hK k hk⟩
theorem Ev.bind {α β : Type} {f : Nat → Option α} {g : Nat → α → Option β} {a : α} {r : β} (hf : Ev f a) (hg : Ev (fun k => g k a) r) : Ev (fun k => (f k).bind fun x => g k x) r := by
  obtain ⟨K, hK⟩ := hf
  obtain ⟨L, hL⟩ := hg
  refine ⟨K + L, fun k hk => ?_⟩
  show (f k).bind (fun x => g k x) = some r
  rw [hK k (by omega), Option.bind_some]
  exact hL k (by omega)
theorem Ev.some_bind {α β : Type} {a : α} {g : Nat → α → Option β} {r : β} (hg : Ev (fun k => g k a) r) : Ev (fun k => (some a).bind fun x => g k x) r := Ev.bind (Ev.pure a) hg
theorem Ev.ex {α : Type} {f : Nat → Option α} {r : α} (h : Ev f r) : ∃ k, f k = some r := by
  obtain ⟨K, hK⟩ := h
  exact ⟨K, hK K (Nat.le_refl _)⟩
theorem Ev.ite {α : Type} {c : Prop} [Decidable c] {f g : Nat → Option α} {r : α} (h1 : c → Ev f r) (h2 : ¬ c → Ev g r) : Ev (fun k => if c then f k else g k) r := by
  by_cases h : c
  · simp only [if_pos h]; exact h1 h
  · simp only [if_neg h]; exact h2 h

/-- The wrapped numbers that occur. -/
theorem wrap_nat {n : Nat} (h : n ≤ 9223372036854775807) : wrap64 (n : Int) = n := wrap_of (by omega) (by omega)
theorem wrap_succ {n : Nat} (h : n < 9223372036854775807) : wrap64 ((n : Int) + 1) = ((n + 1 : Nat) : Int) := by rw [wrap_of (by omega) (by omega)]; omega
theorem wrap_pred {n : Nat} (h : n ≤ 9223372036854775807) (h0 : 0 < n) : wrap64 ((n : Int) - 1) = ((n - 1 : Nat) : Int) := by rw [wrap_of (by omega) (by omega)]; omega
end Go.Proofs.Ytlbhedhbakhhlaa.Q

/- What Validate says, by the code and by the document: the same. -/
namespace Go.Proofs.Ytlbhedhbakhhlaa.Q
open Go.RowKit Go.Proofs.YtlbhedhbakhhlaaW.PrintWords Go.Proofs.YtlbhedhbakhhlaaW.PrintLast Go.Proofs.YtlbhedhbakhhlaaW.PrintMore

def at_ (l : List Int) (i : Nat) : Int := l.getD i 0
theorem rd_at (l : List Int) (i : Nat) : rd l (i : Int) = at_ l i := rfl
theorem rd_zero (l : List Int) : rd l 0 = at_ l 0 := rfl
theorem at_lt (l : List Int) (i : Nat) (h : i < l.length) : at_ l i = l[i] := by
  unfold at_
  rw [List.getD_eq_getElem?_getD, List.getElem?_eq_getElem h]
  rfl
/-- A place that is out of reach, or not behind the one before. -/
def badAt (l : List Int) (i : Nat) : Prop := (at_ l i < -60 ∨ 60 < at_ l i) ∨ (0 < i ∧ at_ l i ≤ at_ l (i - 1))
instance (l : List Int) (i : Nat) : Decidable (badAt l i) := inferInstanceAs (Decidable (_ ∨ _))
/-- Right places so far. -/
def goodTo (l : List Int) (n : Nat) : Prop := ∀ i, i < n → ¬ badAt l i
/-- Right cliffs. -/
structure V (l : List Int) : Prop where
  pos : 0 < l.length
  six : l.length ≤ 6
  good : goodTo l l.length
  span : at_ l (l.length - 1) - at_ l 0 ≤ 60
theorem V.range {l : List Int} (h : V l) {i : Nat} (hi : i < l.length) : -60 ≤ at_ l i ∧ at_ l i ≤ 60 := by
  have := h.good i hi
  unfold badAt at this
  omega
theorem V.lt {l : List Int} (h : V l) : ∀ {i j : Nat}, i < j → j < l.length → at_ l i < at_ l j := by
  intro i j hij
  induction j with
  | zero => omega
  | succ j ih =>
    intro hj
    have h1 := h.good (j + 1) hj
    unfold badAt at h1
    rw [Nat.add_sub_cancel] at h1
    by_cases e : i = j
    · subst e; omega
    · have := ih (by omega) (by omega)
      omega
instance (l : List Int) (n : Nat) : Decidable (goodTo l n) := inferInstanceAs (Decidable (∀ i, i < n → ¬ badAt l i))
instance (l : List Int) : Decidable (V l) := decidable_of_iff (0 < l.length ∧ l.length ≤ 6 ∧ goodTo l l.length ∧ at_ l (l.length - 1) - at_ l 0 ≤ 60)
  ⟨fun h => ⟨h.1, h.2.1, h.2.2.1, h.2.2.2⟩, fun h => ⟨h.pos, h.six, h.good, h.span⟩⟩
/-- The error. -/
def vErr (l : List Int) : Int := if l.length = 0 ∨ 6 < l.length then 3 else if V l then 0 else 1

theorem within_echo (a b c : Int) : echo_within.f a b c = some (decide (b ≤ a ∧ a ≤ c)) := by
  unfold echo_within.f
  by_cases h : a ≥ b
  · rw [if_pos h]; simp [h]
  · rw [if_neg h]; simp; omega
theorem within_ref (a b c : Int) : diaphoneref05_within.f a b c = some (decide (b ≤ a ∧ a ≤ c)) := by
  unfold diaphoneref05_within.f
  by_cases h : a ≥ b
  · rw [if_pos h]; simp [h]
  · rw [if_neg h]; simp; omega

/-- What comes behind the loop. -/
theorem v_end (l : List Int) (h0 : 0 < l.length) (h6 : l.length ≤ 6) (hg : goodTo l l.length) :
    (if wrap64 (rd l (wrap64 ((l.length : Int) - 1)) - rd l 0) > 60 then some 1 else some 0 : Option Int) = some (vErr l) := by
  have h1 : ¬ badAt l 0 := hg 0 h0
  have h2 : ¬ badAt l (l.length - 1) := hg _ (by omega)
  unfold badAt at h1 h2
  rw [wrap_pred (by omega) h0, rd_at, rd_zero, wrap_of (by omega) (by omega)]
  by_cases hs : at_ l (l.length - 1) - at_ l 0 > 60
  · have hv : vErr l = 1 := by unfold vErr; rw [if_neg (by omega), if_neg (fun hv => by have := hv.span; omega)]
    rw [if_pos hs, hv]
  · have hv : vErr l = 0 := by unfold vErr; rw [if_neg (by omega), if_pos ⟨h0, h6, hg, by omega⟩]
    rw [if_neg hs, hv]
theorem v_bad (l : List Int) (h0 : 0 < l.length) (h6 : l.length ≤ 6) (i : Nat) (hi : i < l.length) (hb : badAt l i) : vErr l = 1 := by
  unfold vErr
  rw [if_neg (by omega), if_neg (fun hv => hv.good i hi hb)]

theorem validate_l0 (l : List Int) (h0 : 0 < l.length) (h6 : l.length ≤ 6) : ∀ m i, l.length - i = m → i ≤ l.length → goodTo l i → Ev (fun k => echo_Validate.l0 k l l (l.length : Int) (i : Int)) (vErr l) := by
  intro m
  induction m with
  | zero =>
    intro i hm hi hg
    have : i = l.length := by omega
    subst this
    refine Ev.step (Ev.pure (vErr l)) fun k => ?_
    rw [echo_Validate.l0, if_neg (by omega), if_pos (by rw [wrap_pred (by omega) h0]; omega), if_pos (by rw [wrap_pred (by omega) h0]; omega), if_pos (by omega)]
    exact v_end l h0 h6 hg
  | succ m ih =>
    intro i hm hi hg
    have hlt : i < l.length := by omega
    by_cases hb : badAt l i
    · refine Ev.step (Ev.pure (vErr l)) fun k => ?_
      rw [echo_Validate.l0, if_pos (by omega), if_pos (by omega), if_pos (by omega), within_echo, Option.bind_some, v_bad l h0 h6 i hlt hb, rd_at]
      by_cases hr : -60 ≤ at_ l i ∧ at_ l i ≤ 60
      · have hb2 : 0 < i ∧ at_ l i ≤ at_ l (i - 1) := by unfold badAt at hb; omega
        rw [if_pos (by simpa using hr), if_pos (by omega), wrap_pred (by omega) hb2.1, if_pos (by omega), if_pos (by omega), rd_at, if_pos hb2.2]
      · rw [if_neg (by simpa using hr)]
    · have hb' := hb
      unfold badAt at hb'
      refine Ev.step (ih (i + 1) (by omega) (by omega) (fun j hj => by
        by_cases e : j = i
        · subst e; exact hb
        · exact hg j (by omega))) fun k => ?_
      rw [echo_Validate.l0, if_pos (by omega), if_pos (by omega), if_pos (by omega), within_echo, Option.bind_some, rd_at, if_pos (by simp; omega), wrap_succ (by omega)]
      by_cases hi0 : 0 < i
      · rw [if_pos (by omega), wrap_pred (by omega) hi0, if_pos (by omega), if_pos (by omega), rd_at, if_neg (by omega)]
      · rw [if_neg (by omega)]
theorem validate_ev (l : List Int) : Ev (fun k => echo_Validate.f k l) (vErr l) := by
  unfold echo_Validate.f
  rw [within_echo]
  refine Ev.some_bind ?_
  by_cases h : 1 ≤ l.length ∧ l.length ≤ 6
  · simp only [if_pos (show decide ((1 : Int) ≤ (l.length : Int) ∧ (l.length : Int) ≤ 6) = true by simp; omega)]
    exact validate_l0 l (by omega) h.2 l.length 0 (by omega) (by omega) (fun _ hj => by omega)
  · simp only [if_neg (show ¬ decide ((1 : Int) ≤ (l.length : Int) ∧ (l.length : Int) ≤ 6) = true by simp; omega)]
    have : vErr l = 3 := by unfold vErr; rw [if_pos (by omega)]
    rw [this]
    exact Ev.pure _

theorem rvalidate_l0 (l : List Int) (h0 : 0 < l.length) (h6 : l.length ≤ 6) : ∀ m i, l.length - i = m → i ≤ l.length → goodTo l i → Ev (fun k => diaphoneref05_Validate.l0 k l (i : Int)) (vErr l) := by
  intro m
  induction m with
  | zero =>
    intro i hm hi hg
    have : i = l.length := by omega
    subst this
    refine Ev.step (Ev.pure (vErr l)) fun k => ?_
    rw [diaphoneref05_Validate.l0, if_neg (by omega), if_pos (by rw [wrap_pred (by omega) h0]; omega), if_pos (by rw [wrap_pred (by omega) h0]; omega), if_pos (by omega)]
    exact v_end l h0 h6 hg
  | succ m ih =>
    intro i hm hi hg
    have hlt : i < l.length := by omega
    by_cases hb : badAt l i
    · refine Ev.step (Ev.pure (vErr l)) fun k => ?_
      rw [diaphoneref05_Validate.l0, if_pos (by omega), if_pos (by omega), within_ref, Option.bind_some, v_bad l h0 h6 i hlt hb, rd_at]
      by_cases hr : -60 ≤ at_ l i ∧ at_ l i ≤ 60
      · have hb2 : 0 < i ∧ at_ l i ≤ at_ l (i - 1) := by unfold badAt at hb; omega
        rw [if_pos (by simpa using hr), if_pos (by omega), wrap_pred (by omega) hb2.1, if_pos (by omega), if_pos (by omega), rd_at, if_pos (by omega)]
      · rw [if_neg (by simpa using hr)]
    · have hb' := hb
      unfold badAt at hb'
      refine Ev.step (ih (i + 1) (by omega) (by omega) (fun j hj => by
        by_cases e : j = i
        · subst e; exact hb
        · exact hg j (by omega))) fun k => ?_
      rw [diaphoneref05_Validate.l0, if_pos (by omega), if_pos (by omega), within_ref, Option.bind_some, rd_at, if_pos (by simp; omega), wrap_succ (by omega)]
      by_cases hi0 : 0 < i
      · rw [if_pos (by omega), wrap_pred (by omega) hi0, if_pos (by omega), if_pos (by omega), rd_at, if_neg (by omega)]
      · rw [if_neg (by omega)]
theorem rvalidate_ev (l : List Int) : Ev (fun k => diaphoneref05_Validate.f k l) (vErr l) := by
  unfold diaphoneref05_Validate.f
  rw [within_ref]
  refine Ev.some_bind ?_
  by_cases h : 1 ≤ l.length ∧ l.length ≤ 6
  · simp only [if_pos (show decide ((1 : Int) ≤ (l.length : Int) ∧ (l.length : Int) ≤ 6) = true by simp; omega)]
    exact rvalidate_l0 l (by omega) h.2 l.length 0 (by omega) (by omega) (fun _ hj => by omega)
  · simp only [if_neg (show ¬ decide ((1 : Int) ≤ (l.length : Int) ∧ (l.length : Int) ≤ 6) = true by simp; omega)]
    have : vErr l = 3 := by unfold vErr; rw [if_pos (by omega)]
    rw [this]
    exact Ev.pure _
theorem vErr_zero {l : List Int} (h : vErr l = 0) : V l := by
  unfold vErr at h
  split at h
  · cases h
  · split at h
    · assumption
    · cases h
theorem vErr_of {l : List Int} (h : V l) : vErr l = 0 := by
  unfold vErr
  rw [if_neg (by have := h.pos; have := h.six; omega), if_pos h]
end Go.Proofs.Ytlbhedhbakhhlaa.Q

/- The document's sort by swaps, and when two rows are the same. -/
namespace Go.Proofs.Ytlbhedhbakhhlaa.Q
open Go.RowKit Go.Proofs.YtlbhedhbakhhlaaW.PrintWords Go.Proofs.YtlbhedhbakhhlaaW.PrintLast Go.Proofs.YtlbhedhbakhhlaaW.PrintMore

theorem same_l0 (x y : List Int) (hx : x.length < 9223372036854775807) (hl : x.length = y.length) :
    ∀ m i, x.length - i = m → i ≤ x.length → Ev (fun k => diaphoneref05_SameInts.l0 k x y (i : Int)) (decide (x.drop i = y.drop i)) := by
  intro m
  induction m with
  | zero =>
    intro i hm hi
    rw [List.drop_of_length_le (by omega : x.length ≤ i), List.drop_of_length_le (by omega : y.length ≤ i)]
    refine Ev.step (Ev.pure _) fun k => ?_
    rw [diaphoneref05_SameInts.l0, if_neg (by omega)]
    rfl
  | succ m ih =>
    intro i hm hi
    have hix : i < x.length := by omega
    have hiy : i < y.length := by omega
    rw [List.drop_eq_getElem_cons hix, List.drop_eq_getElem_cons hiy]
    by_cases he : x[i] = y[i]
    · have e : decide (x[i] :: x.drop (i + 1) = y[i] :: y.drop (i + 1)) = decide (x.drop (i + 1) = y.drop (i + 1)) := by simp only [he, List.cons.injEq, true_and]
      rw [e]
      refine Ev.step (ih (i + 1) (by omega) (by omega)) fun k => ?_
      rw [diaphoneref05_SameInts.l0, if_pos (by omega), if_pos (by omega), if_pos (by omega), rd_lt x i hix, rd_lt y i hiy, if_pos he, wrap_succ (by omega)]
    · have e : decide (x[i] :: x.drop (i + 1) = y[i] :: y.drop (i + 1)) = false := by simp only [List.cons.injEq, he, false_and, decide_false]
      rw [e]
      refine Ev.step (Ev.pure _) fun k => ?_
      rw [diaphoneref05_SameInts.l0, if_pos (by omega), if_pos (by omega), if_pos (by omega), rd_lt x i hix, rd_lt y i hiy, if_neg he]
theorem same_ev (x y : List Int) (hx : x.length < 9223372036854775807) : Ev (fun k => diaphoneref05_SameInts.f k x y) (decide (x = y)) := by
  unfold diaphoneref05_SameInts.f
  by_cases hl : x.length = y.length
  · simp only [if_pos (show (x.length : Int) = (y.length : Int) by omega)]
    have := same_l0 x y hx hl x.length 0 (by omega) (by omega)
    simpa using this
  · simp only [if_neg (show ¬ (x.length : Int) = (y.length : Int) by omega)]
    have : x ≠ y := fun h => hl (by rw [h])
    simp only [this, decide_false]
    exact Ev.pure _

def at' (l : List Int) (i : Nat) : Int := l.getD i 0
theorem at'_lt {l : List Int} {i : Nat} (h : i < l.length) : at' l i = l[i] := by
  unfold at'
  rw [List.getD_eq_getElem?_getD, List.getElem?_eq_getElem h]
  rfl
theorem at'_set {l : List Int} {i j : Nat} {x : Int} (h : i < l.length) : at' (l.set i x) j = if j = i then x else at' l j := by
  unfold at'
  rw [List.getD_eq_getElem?_getD, List.getD_eq_getElem?_getD, List.getElem?_set]
  by_cases e : i = j
  · subst e; simp [h]
  · rw [if_neg e, if_neg (Ne.symm e)]

/-- Places a < b up to i are in order, where b is not j. -/
def Near (x : List Int) (i j : Nat) : Prop := ∀ a b, a < b → b ≤ i → b ≠ j → at' x a ≤ at' x b
theorem sorted_end {x l : List Int} (hp : x.Perm l) (hs : ∀ a b, a < b → b < x.length → at' x a ≤ at' x b) : x = isortI l := by
  refine List.Perm.eq_of_pairwise (le := fun a b => leI a b = true) (fun a b _ _ => leI_anti a b) ?_ (sortBy_sorted leI_trans leI_total l) (hp.trans (sortBy_perm leI l).symm)
  rw [List.pairwise_iff_getElem]
  intro a b ha hb hab
  have := hs a b hab hb
  rw [at'_lt ha, at'_lt hb] at this
  simpa [leI] using this
def swapD (x : List Int) (j : Nat) : List Int := (x.set j (at' x (j - 1))).set (j - 1) (at' x j)
theorem swapD_perm {x : List Int} {j : Nat} (h0 : 0 < j) (h : j < x.length) : (swapD x j).Perm x := by
  unfold swapD
  rw [at'_lt h, at'_lt (by omega : j - 1 < x.length)]
  exact List.set_set_perm h (by omega)
theorem swapD_at {x : List Int} {j : Nat} (h0 : 0 < j) (h : j < x.length) (a : Nat) : at' (swapD x j) a = if a = j - 1 then at' x j else if a = j then at' x (j - 1) else at' x a := by
  unfold swapD
  rw [at'_set (by simp; omega), at'_set h]

theorem sorted_l (l : List Int) (hl : l.length < 9223372036854775807) :
    ∀ m i (x : List Int), l.length - i = m → i ≤ l.length → x.Perm l → (∀ a b, a < b → b < i → at' x a ≤ at' x b) → Ev (fun k => diaphoneref05_sorted.l0 k x (i : Int)) (isortI l) := by
  intro m
  induction m with
  | zero =>
    intro i x hm hi hp hs
    have hx : x.length = l.length := hp.length_eq
    have hi' : i = l.length := by omega
    subst hi'
    rw [← sorted_end hp (fun a b hab hb => hs a b hab (by omega))]
    refine Ev.step (Ev.pure x) fun k => ?_
    rw [diaphoneref05_sorted.l0, if_neg (by omega)]
  | succ m ih =>
    intro i x hm hi hp hs
    have hx : x.length = l.length := hp.length_eq
    have key : ∀ j (x : List Int), j ≤ i → x.Perm l → Near x i j → Ev (fun k => diaphoneref05_sorted.l1 k x (i : Int) (j : Int)) (isortI l) := by
      intro j
      induction j with
      | zero =>
        intro x hj hp hn
        refine Ev.step (ih (i + 1) x (by omega) (by omega) hp (fun a b hab hb => hn a b hab (by omega) (by omega))) fun k => ?_
        rw [diaphoneref05_sorted.l1, if_neg (by omega), wrap_succ (by omega)]
      | succ j ihj =>
        intro x hj hp hn
        have hx : x.length = l.length := hp.length_eq
        by_cases hgt : at' x j > at' x (j + 1)
        · refine Ev.step (ihj (swapD x (j + 1)) (by omega) ((swapD_perm (by omega) (by omega)).trans hp) ?_) fun k => ?_
          · intro a b hab hb hne
            rw [swapD_at (by omega) (by omega), swapD_at (by omega) (by omega), Nat.add_sub_cancel, if_neg hne]
            have ha1 := hn a b hab hb
            have ha2 := hn a j
            have ha3 := hn j b
            have ha4 := hn (j + 1) b
            by_cases e1 : b = j + 1
            · subst e1
              rw [if_pos rfl]
              by_cases e2 : a = j
              · subst e2; rw [if_pos rfl]; omega
              · rw [if_neg e2, if_neg (by omega)]
                exact ha2 (by omega) (by omega) (by omega)
            · rw [if_neg e1]
              by_cases e2 : a = j
              · subst e2; rw [if_pos rfl]; exact ha4 (by omega) hb e1
              · rw [if_neg e2]
                by_cases e3 : a = j + 1
                · subst e3; rw [if_pos rfl]; exact ha3 (by omega) hb e1
                · rw [if_neg e3]; exact ha1 e1
          · rw [diaphoneref05_sorted.l1, if_pos (by omega), wrap_pred (by omega) (by omega), if_pos (by omega), if_pos (by omega), if_pos (by omega), if_pos (by omega)]
            rw [if_pos (show rd x ((j + 1 - 1 : Nat) : Int) > rd x ((j + 1 : Nat) : Int) from hgt)]
            rfl
        · refine Ev.step (ih (i + 1) x (by omega) (by omega) hp (fun a b hab hb => ?_)) fun k => ?_
          · by_cases e : b = j + 1
            · subst e
              by_cases e2 : a = j
              · subst e2; omega
              · have := hn a j (by omega) (by omega) (by omega)
                omega
            · exact hn a b hab (by omega) e
          · rw [diaphoneref05_sorted.l1, if_pos (by omega), wrap_pred (by omega) (by omega), if_pos (by omega), if_pos (by omega), if_pos (by omega), if_pos (by omega)]
            rw [if_neg (show ¬ rd x ((j + 1 - 1 : Nat) : Int) > rd x ((j + 1 : Nat) : Int) from hgt), wrap_succ (by omega)]
    refine Ev.step (key i x (Nat.le_refl _) hp (fun a b hab hb hne => hs a b hab (by omega))) fun k => ?_
    rw [diaphoneref05_sorted.l0, if_pos (by omega)]
theorem sorted_ev (l : List Int) (hl : l.length < 17592186044416) : Ev (fun k => diaphoneref05_sorted.f k l) (isortI l) := by
  unfold diaphoneref05_sorted.f
  refine Ev.some_bind ?_
  simp only [List.length_nil, Nat.zero_add, if_pos hl, List.nil_append]
  exact sorted_l l (by omega) l.length 0 l (by omega) (by omega) (.refl _) (fun a b _ hb => by omega)
end Go.Proofs.Ytlbhedhbakhhlaa.Q

/- The delays, by the code and by the document, and whether none comes twice. -/
namespace Go.Proofs.Ytlbhedhbakhhlaa.Q
open Go.RowKit Go.Proofs.YtlbhedhbakhhlaaW.PrintWords Go.Proofs.YtlbhedhbakhhlaaW.PrintLast Go.Proofs.YtlbhedhbakhhlaaW.PrintMore

/-- Few numbers, all small. -/
structure Small (c : List Int) : Prop where
  len : c.length ≤ 1000
  at_ : ∀ i, -1000000 ≤ at_ c i ∧ at_ c i ≤ 1000000
theorem at_ge (l : List Int) (i : Nat) (h : l.length ≤ i) : at_ l i = 0 := by
  unfold at_
  rw [List.getD_eq_getElem?_getD, List.getElem?_eq_none h]
  rfl
theorem V.small {c : List Int} (h : V c) : Small c where
  len := by have := h.six; omega
  at_ := fun i => by
    by_cases hi : i < c.length
    · have := h.range hi; omega
    · rw [at_ge c i (by omega)]; omega

def dif (c : List Int) (a b : Nat) : Int := at_ c a - at_ c b
/-- The delays of the first n cliffs. -/
def D (c : List Int) : Nat → List Int
  | 0 => []
  | n + 1 => D c n ++ (List.range n).map (dif c n)
theorem D_len (c : List Int) : ∀ n, n ≤ 1000 → (D c n).length ≤ n * 1000
  | 0, _ => by simp [D]
  | n + 1, h => by
    have := D_len c n (by omega)
    simp only [D, List.length_append, List.length_map, List.length_range]
    omega
theorem dif_wrap {c : List Int} (h : Small c) (a b : Nat) : wrap64 (at_ c a - at_ c b) = dif c a b := by
  have h1 := h.at_ a
  have h2 := h.at_ b
  exact wrap_of (by omega) (by omega)
theorem part_succ (c : List Int) (i j : Nat) : D c i ++ (List.range (j + 1)).map (dif c i) = (D c i ++ (List.range j).map (dif c i)) ++ [dif c i j] := by
  rw [List.range_succ, List.map_append, List.append_assoc]
  rfl
theorem part_len {c : List Int} (h : Small c) (i j : Nat) (hi : i ≤ 1000) (hj : j ≤ 1000) : (D c i ++ (List.range j).map (dif c i)).length < 17592186044416 := by
  have := D_len c i hi
  simp only [List.length_append, List.length_map, List.length_range]
  omega
theorem sort_ev (l : List Int) (h : l.length < 17592186044416) : slices_Sort_int_int.f l = some (isortI l) := by
  unfold slices_Sort_int_int.f
  rw [if_pos h]
theorem rd_take (c : List Int) (i j : Nat) (h : j < i) : rd (c.take i) (j : Int) = at_ c j := by
  show (c.take i).getD j 0 = c.getD j 0
  rw [List.getD_eq_getElem?_getD, List.getD_eq_getElem?_getD, List.getElem?_take_of_lt h]

theorem delays_l0 {c : List Int} (h : Small c) : ∀ m i, c.length - i = m → i ≤ c.length → Ev (fun k => echo_delays.l0 k c (D c i) c (c.length : Int) (i : Int)) (isortI (D c c.length)) := by
  have hlen := h.len
  intro m
  induction m with
  | zero =>
    intro i hm hi
    have : i = c.length := by omega
    subst this
    refine Ev.step (Ev.pure _) fun k => ?_
    have := D_len c c.length h.len
    rw [echo_delays.l0, if_neg (by omega), sort_ev _ (by omega)]
    rfl
  | succ m ih =>
    intro i hm hi
    have key : ∀ m' j, i - j = m' → j ≤ i → Ev (fun k => echo_delays.l1 k c (D c i ++ (List.range j).map (dif c i)) (at_ c i) c (c.length : Int) (i : Int) (c.take i) ((c.take i).length : Int) (j : Int)) (isortI (D c c.length)) := by
      intro m'
      induction m' with
      | zero =>
        intro j hm' hj
        have : j = i := by omega
        subst this
        refine Ev.step (ih (j + 1) (by omega) (by omega)) fun k => ?_
        rw [echo_delays.l1, if_neg (by rw [List.length_take]; omega), wrap_succ (by omega)]
        rfl
      | succ m' ih' =>
        intro j hm' hj
        refine Ev.step (ih' (j + 1) (by omega) (by omega)) fun k => ?_
        rw [echo_delays.l1, if_pos (by rw [List.length_take]; omega), if_pos (by omega), if_pos (by rw [List.length_take]; omega), if_pos (part_len h i j (by omega) (by omega)), rd_take c i j (by omega), dif_wrap h, wrap_succ (by omega), ← part_succ]
    refine Ev.step (key i 0 (by omega) (by omega)) fun k => ?_
    rw [echo_delays.l0, if_pos (by omega), if_pos (by omega), if_pos (by omega), if_pos (by omega), Int.toNat_natCast, rd_at]
    simp
theorem delays_ev {c : List Int} (h : Small c) : Ev (fun k => echo_delays.f k c) (isortI (D c c.length)) := by
  unfold echo_delays.f
  exact delays_l0 h c.length 0 (by omega) (by omega)

theorem rdelays_l0 {c : List Int} (h : Small c) : ∀ m i, c.length - i = m → i ≤ c.length → Ev (fun k => diaphoneref05_delays.l0 k c (D c i) (i : Int)) (isortI (D c c.length)) := by
  have hlen := h.len
  intro m
  induction m with
  | zero =>
    intro i hm hi
    have : i = c.length := by omega
    subst this
    have := D_len c c.length h.len
    refine Ev.step (Ev.bind (sorted_ev (D c c.length) (by omega)) (Ev.pure _)) fun k => ?_
    rw [diaphoneref05_delays.l0, if_neg (by omega)]
  | succ m ih =>
    intro i hm hi
    have key : ∀ m' j, i - j = m' → j ≤ i → Ev (fun k => diaphoneref05_delays.l1 k c (D c i ++ (List.range j).map (dif c i)) (i : Int) (j : Int)) (isortI (D c c.length)) := by
      intro m'
      induction m' with
      | zero =>
        intro j hm' hj
        have : j = i := by omega
        subst this
        refine Ev.step (ih (j + 1) (by omega) (by omega)) fun k => ?_
        rw [diaphoneref05_delays.l1, if_neg (by omega), wrap_succ (by omega)]
        rfl
      | succ m' ih' =>
        intro j hm' hj
        refine Ev.step (ih' (j + 1) (by omega) (by omega)) fun k => ?_
        rw [diaphoneref05_delays.l1, if_pos (by omega), if_pos (by omega), if_pos (by omega), if_pos (by omega), if_pos (by omega), if_pos (part_len h i j (by omega) (by omega)), rd_at, rd_at, dif_wrap h, wrap_succ (by omega), ← part_succ]
    refine Ev.step (key i 0 (by omega) (by omega)) fun k => ?_
    rw [diaphoneref05_delays.l0, if_pos (by omega)]
    simp
theorem rdelays_ev {c : List Int} (h : Small c) : Ev (fun k => diaphoneref05_delays.f k c) (isortI (D c c.length)) := by
  unfold diaphoneref05_delays.f
  exact rdelays_l0 h c.length 0 (by omega) (by omega)

/-- All delays, sorted. -/
def dl (c : List Int) : List Int := isortI (D c c.length)
theorem dl_len {c : List Int} (h : Small c) : (dl c).length ≤ 1000000 := by
  unfold dl isortI
  rw [(sortBy_perm leI _).length_eq]
  have := D_len c c.length h.len
  have := h.len
  omega

/-! ### None twice -/
def allKept (s : List Int) : Prop := ∀ j, j < s.length → Lib.keeps s.toArray j = true
instance (s : List Int) : Decidable (allKept s) := inferInstanceAs (Decidable (∀ j, j < s.length → Lib.keeps s.toArray j = true))
theorem compact_len (s : List Int) : (Lib.compact s).length = s.length ↔ allKept s := by
  unfold Lib.compact Lib.compactUpTo
  rw [List.length_map]
  have h : ((List.range s.length).filter (Lib.keeps s.toArray)).length = (List.range s.length).length ↔ ∀ a ∈ List.range s.length, Lib.keeps s.toArray a = true := List.length_filter_eq_length_iff
  rw [List.length_range] at h
  rw [h]
  simp [allKept]
theorem compact_le (s : List Int) : (Lib.compact s).length ≤ s.length := by
  unfold Lib.compact Lib.compactUpTo
  rw [List.length_map]
  have := List.length_filter_le (Lib.keeps s.toArray) (List.range s.length)
  simpa using this
theorem keeps_at (s : List Int) (j : Nat) (hj : j < s.length) : Lib.keeps s.toArray j = decide (j = 0 ∨ at_ s j ≠ at_ s (j - 1)) := by
  unfold Lib.keeps
  have e : ∀ i, i < s.length → s.toArray[i]! = at_ s i := fun i hi => by
    rw [getElem!_pos _ _ (by simpa using hi), at_lt s i hi]
    simp
  rw [e j hj, e (j - 1) (by omega)]
theorem isRuler_ev {c : List Int} (h : Small c) : Ev (fun k => echo_isRuler.f k c) (decide (allKept (dl c))) := by
  unfold echo_isRuler.f
  refine Ev.bind (delays_ev h) ?_
  have hl := dl_len h
  unfold dl at hl
  unfold slices_Clone_int_int.f slices_Compact_int_int.f
  simp only [if_pos (show (isortI (D c c.length)).length < 17592186044416 by omega), Option.bind_some]
  have e : (((Lib.compact (isortI (D c c.length))).length : Int) == ((isortI (D c c.length)).length : Int)) = decide (allKept (dl c)) := by
    rw [Bool.eq_iff_iff]
    simp only [beq_iff_eq, decide_eq_true_eq]
    rw [← compact_len]
    unfold dl
    omega
  rw [e]
  exact Ev.pure _
theorem ruler_l0 (s : List Int) (hs : s.length ≤ 1000000) : ∀ m i, s.length - i = m → 0 < i → (∀ j, j < i → j < s.length → Lib.keeps s.toArray j = true) → Ev (fun k => diaphoneref05_ruler.l0 k s (i : Int)) (decide (allKept s)) := by
  intro m
  induction m with
  | zero =>
    intro i hm hi hk
    have e : decide (allKept s) = true := decide_eq_true (fun j hj => hk j (by omega) hj)
    rw [e]
    refine Ev.step (Ev.pure _) fun k => ?_
    rw [diaphoneref05_ruler.l0, if_neg (by omega)]
  | succ m ih =>
    intro i hm hi hk
    by_cases he : at_ s i = at_ s (i - 1)
    · have e : decide (allKept s) = false := decide_eq_false (fun hall => by
        have := hall i (by omega)
        rw [keeps_at s i (by omega), decide_eq_true_eq] at this
        omega)
      rw [e]
      refine Ev.step (Ev.pure _) fun k => ?_
      rw [diaphoneref05_ruler.l0, if_pos (by omega), if_pos (by omega), wrap_pred (by omega) hi, if_pos (by omega), if_pos (by omega), rd_at, rd_at, if_pos he]
    · refine Ev.step (ih (i + 1) (by omega) (by omega) (fun j hj hjl => ?_)) fun k => ?_
      · by_cases e : j = i
        · subst e
          rw [keeps_at s j hjl]
          simp [he]
        · exact hk j (by omega) hjl
      · rw [diaphoneref05_ruler.l0, if_pos (by omega), if_pos (by omega), wrap_pred (by omega) hi, if_pos (by omega), if_pos (by omega), rd_at, rd_at, if_neg he, wrap_succ (by omega)]
theorem ruler_ev {c : List Int} (h : Small c) : Ev (fun k => diaphoneref05_ruler.f k c) (decide (allKept (dl c))) := by
  unfold diaphoneref05_ruler.f
  exact Ev.bind (rdelays_ev h) (ruler_l0 (dl c) (dl_len h) _ 1 rfl (by omega) (fun j hj hl => by
    have : j = 0 := by omega
    subst this
    rw [keeps_at _ _ hl]
    simp))

/-! ### Delays and IsRuler -/
theorem Delays_ev (c : List Int) : Ev (fun k => echo_Delays.f k c) (if vErr c = 0 then dl c else [], vErr c) := by
  unfold echo_Delays.f
  refine Ev.bind (validate_ev c) ?_
  by_cases h : vErr c = 0
  · simp only [if_pos h]
    rw [h]
    exact Ev.bind (delays_ev (vErr_zero h).small) (Ev.pure _)
  · simp only [if_neg h]
    exact Ev.pure _
theorem RDelays_ev (c : List Int) : Ev (fun k => diaphoneref05_Delays.f k c) (if vErr c = 0 then dl c else [], vErr c) := by
  unfold diaphoneref05_Delays.f
  refine Ev.bind (rvalidate_ev c) ?_
  by_cases h : vErr c = 0
  · simp only [if_pos h]
    rw [h]
    exact Ev.bind (rdelays_ev (vErr_zero h).small) (Ev.pure _)
  · simp only [if_neg h]
    exact Ev.pure _
theorem IsRuler_ev (c : List Int) : Ev (fun k => echo_IsRuler.f k c) (if vErr c = 0 then decide (allKept (dl c)) else false, vErr c) := by
  unfold echo_IsRuler.f
  refine Ev.bind (validate_ev c) ?_
  by_cases h : vErr c = 0
  · simp only [if_pos h]
    rw [h]
    exact Ev.bind (isRuler_ev (vErr_zero h).small) (Ev.pure _)
  · simp only [if_neg h]
    exact Ev.pure _
theorem RIsRuler_ev (c : List Int) : Ev (fun k => diaphoneref05_IsRuler.f k c) (if vErr c = 0 then decide (allKept (dl c)) else false, vErr c) := by
  unfold diaphoneref05_IsRuler.f
  refine Ev.bind (rvalidate_ev c) ?_
  by_cases h : vErr c = 0
  · simp only [if_pos h]
    rw [h]
    exact Ev.bind (ruler_ev (vErr_zero h).small) (Ev.pure _)
  · simp only [if_neg h]
    exact Ev.pure _
end Go.Proofs.Ytlbhedhbakhhlaa.Q

/- The differences of the pairs of a row: what moving and mirroring do to them. -/
namespace Go.Proofs.Ytlbhedhbakhhlaa.Q
open Go.RowKit Go.Proofs.YtlbhedhbakhhlaaW.PrintWords Go.Proofs.YtlbhedhbakhhlaaW.PrintLast Go.Proofs.YtlbhedhbakhhlaaW.PrintMore

theorem isortI_perm (l : List Int) : (isortI l).Perm l := sortBy_perm leI l
theorem isortI_sorted (l : List Int) : (isortI l).Pairwise (fun a b => a ≤ b) := by
  have := sortBy_sorted leI_trans leI_total l
  exact this.imp (fun h => by simpa [leI] using h)
theorem isortI_uniq {s l : List Int} (hp : s.Perm l) (hs : s.Pairwise (fun a b => a ≤ b)) : s = isortI l :=
  List.Perm.eq_of_pairwise (le := fun a b => a ≤ b) (fun a b _ _ h1 h2 => by omega) hs (isortI_sorted l) (hp.trans (isortI_perm l).symm)
theorem isortI_congr {l m : List Int} (h : l.Perm m) : isortI l = isortI m := isortI_uniq ((isortI_perm l).trans h) (isortI_sorted l)

/-- All differences of a later and an earlier one. -/
def P : List Int → List Int
  | [] => []
  | a :: t => t.map (fun x => x - a) ++ P t
theorem P_snoc : ∀ (l : List Int) (b : Int), (P (l ++ [b])).Perm (l.map (fun x => b - x) ++ P l)
  | [], b => by simp [P]
  | a :: t, b => by
    have ih := P_snoc t b
    simp only [List.cons_append, P, List.map_append, List.map_cons, List.map_nil, List.append_assoc]
    -- (t - a) ++ [b - a] ++ P (t ++ [b])  ~  (b - a) :: ((b - t) ++ ((t - a) ++ P t))
    have sw : ∀ X Y Z : List Int, (X ++ (Y ++ Z)).Perm (Y ++ (X ++ Z)) := fun X Y Z => by
      have := (List.perm_append_comm (l₁ := X) (l₂ := Y)).append_right Z
      simpa only [List.append_assoc] using this
    refine ((ih.append_left [b - a]).append_left _).trans ?_
    refine (sw _ [b - a] _).trans ?_
    exact (sw _ (t.map (fun x => b - x)) _).append_left [b - a]
theorem P_mirror (s : Int) : ∀ l : List Int, (P (l.reverse.map (fun x => s - x))).Perm (P l)
  | [] => by simp
  | a :: t => by
    rw [List.reverse_cons, List.map_append, List.map_cons, List.map_nil]
    refine (P_snoc _ _).trans ?_
    rw [List.map_map, P]
    refine List.Perm.append ?_ (P_mirror s t)
    have e : ((fun x => s - a - x) ∘ fun x => s - x) = fun x => x - a := by
      funext x
      simp only [Function.comp]
      omega
    rw [e, List.map_reverse]
    exact List.reverse_perm _
theorem P_shift (b : Int) : ∀ l : List Int, P (l.map (fun x => x + b)) = P l
  | [] => rfl
  | a :: t => by
    rw [List.map_cons, P, P_shift b t, P, List.map_map]
    congr 1
    apply List.map_congr_left
    intro x _
    simp only [Function.comp]
    omega
theorem P_scale (b : Int) : ∀ l : List Int, P (l.map (fun x => x * b)) = (P l).map (fun x => b * x)
  | [] => rfl
  | a :: t => by
    rw [List.map_cons, P, P_scale b t, P, List.map_append, List.map_map, List.map_map]
    congr 1
    apply List.map_congr_left
    intro x _
    simp only [Function.comp]
    rw [Int.mul_sub, Int.mul_comm x b, Int.mul_comm a b]

theorem at_append_left (l : List Int) (b : Int) (i : Nat) (h : i < l.length) : at_ (l ++ [b]) i = at_ l i := by
  rw [at_lt _ _ (by simp; omega), at_lt _ _ h, List.getElem_append_left h]
theorem at_append_last (l : List Int) (b : Int) : at_ (l ++ [b]) l.length = b := by
  rw [at_lt _ _ (by simp)]
  simp
theorem D_append (l : List Int) (b : Int) : ∀ m, m ≤ l.length → D (l ++ [b]) m = D l m
  | 0, _ => rfl
  | m + 1, h => by
    rw [D, D, D_append l b m (by omega)]
    congr 1
    apply List.map_congr_left
    intro j hj
    have := List.mem_range.1 hj
    unfold dif
    rw [at_append_left l b m (by omega), at_append_left l b j (by omega)]
theorem range_at (l : List Int) : (List.range l.length).map (fun j => at_ l j) = l := by
  apply List.ext_getElem
  · simp
  · intro i h1 h2
    simp only [List.getElem_map, List.getElem_range]
    exact at_lt l i h2
theorem D_snoc (l : List Int) (b : Int) : D (l ++ [b]) (l ++ [b]).length = D l l.length ++ l.map (fun x => b - x) := by
  rw [List.length_append, List.length_singleton, D, D_append l b _ (Nat.le_refl _)]
  congr 1
  have : (List.range l.length).map (dif (l ++ [b]) l.length) = (List.range l.length).map ((fun x => b - x) ∘ fun j => at_ l j) := by
    apply List.map_congr_left
    intro j hj
    have := List.mem_range.1 hj
    unfold dif
    rw [at_append_last, at_append_left l b j this]
    rfl
  rw [this, ← List.map_map, range_at]
theorem D_P (c : List Int) : (D c c.length).Perm (P c) := by
  have key : ∀ n (c : List Int), c.length = n → (D c c.length).Perm (P c) := by
    intro n
    induction n with
    | zero =>
      intro c h
      obtain rfl := List.length_eq_zero_iff.1 h
      exact .refl _
    | succ n ih =>
      intro c h
      have hne : c ≠ [] := fun e => by rw [e] at h; cases h
      obtain ⟨l, b, rfl⟩ : ∃ l b, c = l ++ [b] := ⟨c.dropLast, c.getLast hne, (List.dropLast_concat_getLast hne).symm⟩
      rw [D_snoc]
      refine List.Perm.trans ?_ (P_snoc l b).symm
      refine List.perm_append_comm.trans ?_
      exact (ih l (by simpa using h)).append_left _
  exact key c.length c rfl
/-- The delays by the pairs. -/
theorem dl_P (c : List Int) : dl c = isortI (P c) := isortI_congr (D_P c)
theorem dl_shift (c : List Int) (b : Int) : dl (c.map fun x => x + b) = dl c := by rw [dl_P, dl_P, P_shift]
theorem dl_mirror (c : List Int) (s : Int) : dl (c.reverse.map fun x => s - x) = dl c := by rw [dl_P, dl_P, isortI_congr (P_mirror s c)]
end Go.Proofs.Ytlbhedhbakhhlaa.Q

/- Moving, mirroring and the normal form, by the code and by the document. -/
namespace Go.Proofs.Ytlbhedhbakhhlaa.Q
open Go.RowKit Go.Proofs.YtlbhedhbakhhlaaW.PrintWords Go.Proofs.YtlbhedhbakhhlaaW.PrintLast Go.Proofs.YtlbhedhbakhhlaaW.PrintMore

theorem Small.mem {c : List Int} (h : Small c) {x : Int} (hx : x ∈ c) : -1000000 ≤ x ∧ x ≤ 1000000 := by
  obtain ⟨i, hi, rfl⟩ := List.mem_iff_getElem.1 hx
  have := h.at_ i
  rwa [at_lt c i hi] at this
theorem at_set (l : List Int) (i j : Nat) (x : Int) (h : i < l.length) : at_ (l.set i x) j = if j = i then x else at_ l j := at'_set h

theorem shift_l0 (c : List Int) (by_ : Int) (hc : c.length ≤ 1000) (hw : ∀ x ∈ c, wrap64 (x + by_) = x + by_) :
    ∀ m i, c.length - i = m → i ≤ c.length → Ev (fun k => echo_shift.l0 k by_ ((c.take i).map (fun x => x + by_) ++ c.drop i) (c.length : Int) (i : Int)) (c.map fun x => x + by_) := by
  intro m
  induction m with
  | zero =>
    intro i hm hi
    refine Ev.step (Ev.pure _) fun k => ?_
    rw [echo_shift.l0, if_neg (by omega), List.take_of_length_le (by omega), List.drop_of_length_le (by omega), List.append_nil]
  | succ m ih =>
    intro i hm hi
    have hlt : i < c.length := by omega
    refine Ev.step (ih (i + 1) (by omega) (by omega)) fun k => ?_
    have hl : ((c.take i).map (fun x => x + by_) ++ c.drop i).length = c.length := by simp; omega
    have hat : rd ((c.take i).map (fun x => x + by_) ++ c.drop i) (i : Int) = c[i] := by
      rw [rd_lt _ i (by omega), List.getElem_append_right (by simp; omega)]
      simp [Nat.min_eq_left hi]
    rw [echo_shift.l0, if_pos (by omega), if_pos (by omega), if_pos (by omega), hat, hw _ (List.getElem_mem hlt), wrap_succ (by omega), Int.toNat_natCast]
    congr 1
    have h1 : ((c.take i).map fun x => x + by_).length = i := by simp; omega
    rw [List.set_append_right _ _ (by omega), h1, Nat.sub_self, List.drop_eq_getElem_cons hlt, List.set_cons_zero, List.take_succ_eq_append_getElem hlt, List.map_append, List.append_assoc]
    rfl
theorem shift_ev (c : List Int) (by_ : Int) (hc : c.length ≤ 1000) (hw : ∀ x ∈ c, wrap64 (x + by_) = x + by_) : Ev (fun k => echo_shift.f k c by_) (c.map fun x => x + by_) := by
  unfold echo_shift.f slices_Clone_int_int.f
  rw [if_pos (by omega)]
  refine Ev.some_bind ?_
  have := shift_l0 c by_ hc hw c.length 0 (by omega) (by omega)
  simpa using this

/-- The mirror image. -/
def mir (c : List Int) : List Int := c.reverse.map fun x => at_ c 0 + at_ c (c.length - 1) - x
theorem mirrorW_mir {c : List Int} (h : Small c) (h0 : 0 < c.length) : mirrorW c = mir c := by
  unfold mirrorW mir
  apply List.map_congr_left
  intro x hx
  have h1 := h.mem (List.mem_reverse.1 hx)
  have h2 := h.at_ 0
  have h3 := h.at_ (c.length - 1)
  have := h.len
  have e1 : wrap64 (at_ c 0 + at_ c (c.length - 1)) = at_ c 0 + at_ c (c.length - 1) := wrap_of (by omega) (by omega)
  rw [wrap_pred (by omega) h0, rd_at, rd_zero, e1, wrap_of (by omega) (by omega)]
theorem mirror_f {c : List Int} (h : Small c) (h0 : 0 < c.length) : echo_mirror.f c = some (mir c) := by
  unfold echo_mirror.f
  rw [if_pos (by have := h.len; omega), mirrorW_mir h h0]
theorem mir_len (c : List Int) : (mir c).length = c.length := by simp [mir]
theorem mir_at {c : List Int} {i : Nat} (h : i < c.length) : at_ (mir c) i = at_ c 0 + at_ c (c.length - 1) - at_ c (c.length - 1 - i) := by
  rw [at_lt _ i (by rw [mir_len]; exact h)]
  unfold mir
  rw [List.getElem_map, List.getElem_reverse, ← at_lt c]
theorem ext_at {c d : List Int} (hl : c.length = d.length) (h : ∀ i, i < c.length → at_ c i = at_ d i) : c = d := by
  apply List.ext_getElem hl
  intro i h1 h2
  rw [← at_lt, ← at_lt]
  exact h i h1
theorem mir_mir {c : List Int} (h0 : 0 < c.length) : mir (mir c) = c := by
  refine ext_at (by rw [mir_len, mir_len]) fun i hi => ?_
  rw [mir_len, mir_len] at hi
  rw [mir_at (by rw [mir_len]; exact hi), mir_len, mir_at h0, mir_at (by omega), mir_at (by omega)]
  rw [show c.length - 1 - 0 = c.length - 1 by omega, show c.length - 1 - (c.length - 1) = 0 by omega, show c.length - 1 - (c.length - 1 - i) = i by omega]
  omega

theorem rmirror_l0 {c : List Int} (h : Small c) (h0 : 0 < c.length) : ∀ n, n ≤ c.length →
    Ev (fun k => diaphoneref05_mirror.l0 k c ((c.reverse.take (c.length - n)).map fun x => at_ c 0 + at_ c (c.length - 1) - x) ((n : Int) - 1)) (mir c) := by
  have hlen := h.len
  intro n
  induction n with
  | zero =>
    intro hn
    refine Ev.step (Ev.pure _) fun k => ?_
    rw [diaphoneref05_mirror.l0, if_neg (by omega), Nat.sub_zero, List.take_of_length_le (by simp)]
    rfl
  | succ n ih =>
    intro hn
    refine Ev.step (ih (by omega)) fun k => ?_
    have h2 := h.at_ 0
    have h3 := h.at_ (c.length - 1)
    have h4 := h.at_ n
    have e1 : (((n + 1 : Nat) : Int) - 1) = (n : Int) := by omega
    rw [e1, diaphoneref05_mirror.l0, if_pos (by omega), if_pos (by omega), wrap_pred (by omega) h0, if_pos (by omega), if_pos (by omega), if_pos (by omega), if_pos (by omega), if_pos (by simp; omega)]
    have e3 : wrap64 (at_ c 0 + at_ c (c.length - 1)) = at_ c 0 + at_ c (c.length - 1) := wrap_of (by omega) (by omega)
    rw [rd_at, rd_at, rd_zero, e3, wrap_of (by omega) (by omega), wrap_of (by omega) (by omega)]
    congr 1
    have e2 : c.length - n = (c.length - (n + 1)) + 1 := by omega
    rw [e2, List.take_succ_eq_append_getElem (by simp; omega), List.map_append, List.map_cons, List.map_nil, List.getElem_reverse]
    congr 2
    rw [at_lt c n (by omega)]
    congr 2
    omega
theorem rmirror_ev {c : List Int} (h : Small c) (h0 : 0 < c.length) : Ev (fun k => diaphoneref05_mirror.f k c) (mir c) := by
  unfold diaphoneref05_mirror.f
  have := rmirror_l0 h h0 c.length (Nat.le_refl _)
  rw [wrap_of (by have := h.len; omega) (by have := h.len; omega)]
  simpa using this

theorem before_l0 (x y : List Int) (hx : x.length ≤ 1000) (hl : x.length = y.length) :
    ∀ m i, x.length - i = m → i ≤ x.length → Ev (fun k => diaphoneref05_before.l0 k x y (i : Int)) (decide (lexI (x.drop i) (y.drop i) ≤ 0)) := by
  intro m
  induction m with
  | zero =>
    intro i hm hi
    rw [List.drop_of_length_le (by omega : x.length ≤ i), List.drop_of_length_le (by omega : y.length ≤ i)]
    refine Ev.step (Ev.pure _) fun k => ?_
    rw [diaphoneref05_before.l0, if_neg (by omega)]
    rfl
  | succ m ih =>
    intro i hm hi
    have hix : i < x.length := by omega
    have hiy : i < y.length := by omega
    rw [List.drop_eq_getElem_cons hix, List.drop_eq_getElem_cons hiy]
    by_cases he : x[i] = y[i]
    · have eL : lexI (x[i] :: x.drop (i + 1)) (y[i] :: y.drop (i + 1)) = lexI (x.drop (i + 1)) (y.drop (i + 1)) := by rw [lexI, if_neg (by omega), if_neg (by omega)]
      rw [eL]
      refine Ev.step (ih (i + 1) (by omega) (by omega)) fun k => ?_
      rw [diaphoneref05_before.l0, if_pos (by omega), if_pos (by omega), if_pos (by omega), rd_lt x i hix, rd_lt y i hiy, if_pos he, wrap_succ (by omega)]
    · have eL : lexI (x[i] :: x.drop (i + 1)) (y[i] :: y.drop (i + 1)) = if x[i] < y[i] then -1 else 1 := by
        rw [lexI]
        by_cases h1 : x[i] < y[i]
        · rw [if_pos h1, if_pos h1]
        · rw [if_neg h1, if_neg h1, if_pos (by omega)]
      rw [eL]
      refine Ev.step (Ev.pure _) fun k => ?_
      rw [diaphoneref05_before.l0, if_pos (by omega), if_pos (by omega), if_pos (by omega), rd_lt x i hix, rd_lt y i hiy, if_neg he]
      by_cases h1 : x[i] < y[i]
      · simp [h1]
      · simp [h1]
theorem before_ev (x y : List Int) (hx : x.length ≤ 1000) (hl : x.length = y.length) : Ev (fun k => diaphoneref05_before.f k x y) (decide (lexI x y ≤ 0)) := by
  unfold diaphoneref05_before.f
  have := before_l0 x y hx hl x.length 0 (by omega) (by omega)
  simpa using this

/-- Moved to 0. -/
def zero (c : List Int) : List Int := c.map fun x => x + -(at_ c 0)
/-- The normal form. -/
def nf (c : List Int) : List Int := if lexI (mir (zero c)) (zero c) < 0 then mir (zero c) else zero c
theorem zero_len (c : List Int) : (zero c).length = c.length := by simp [zero]
theorem map_at (c : List Int) (f : Int → Int) (i : Nat) (h : i < c.length) : at_ (c.map f) i = f (at_ c i) := by
  rw [at_lt _ i (by simpa using h), at_lt c i h]
  simp
theorem zero_at {c : List Int} {i : Nat} (h : i < c.length) : at_ (zero c) i = at_ c i - at_ c 0 := by
  unfold zero
  rw [map_at c _ i h]
  omega
theorem V.zero_small {c : List Int} (h : V c) : Small (zero c) where
  len := by rw [zero_len]; have := h.six; omega
  at_ := fun i => by
    by_cases hi : i < c.length
    · rw [zero_at hi]
      have := h.range hi
      have := h.range h.pos
      omega
    · rw [at_ge _ _ (by rw [zero_len]; omega)]; omega
theorem nf_len (c : List Int) : (nf c).length = c.length := by
  unfold nf
  split
  · rw [mir_len, zero_len]
  · rw [zero_len]
theorem normal_ev {c : List Int} (h : V c) : Ev (fun k => echo_normal.f k c) (nf c) := by
  have h6 := h.six
  have h0 := h.pos
  have hr := h.range h0
  unfold echo_normal.f
  simp only [if_pos (show (0 : Int) < (c.length : Int) by omega), rd_zero]
  rw [wrap_of (by omega) (by omega)]
  refine Ev.bind (shift_ev c _ (by omega) (fun x hx => ?_)) ?_
  · have := h.small.mem hx
    exact wrap_of (by omega) (by omega)
  · show Ev (fun k => (echo_mirror.f (zero c)).bind fun t105 => ((slices_Compare_int_int.f k t105 (zero c)).bind fun t108 => (if t108 < 0 then (some t105) else (some (zero c))))) _
    rw [mirror_f h.zero_small (by rw [zero_len]; exact h0)]
    refine Ev.some_bind ?_
    refine Ev.bind (Ev.of ((mir (zero c)).length + 1) (fun k hk => compare_ev _ _ (by rw [mir_len, zero_len]; omega) k (by omega))) ?_
    unfold nf
    by_cases hlt : lexI (mir (zero c)) (zero c) < 0
    · simp only [if_pos hlt]; exact Ev.pure _
    · simp only [if_neg hlt]; exact Ev.pure _
theorem rnormal_l0 {c : List Int} (h : V c) : ∀ m i, c.length - i = m → i ≤ c.length → Ev (fun k => diaphoneref05_normal.l0 k c ((zero c).take i) (i : Int)) (nf c) := by
  have h6 := h.six
  have h0 := h.pos
  have hzl := zero_len c
  intro m
  induction m with
  | zero =>
    intro i hm hi
    have : i = c.length := by omega
    subst this
    rw [List.take_of_length_le (by omega)]
    refine Ev.step (g := fun k => (diaphoneref05_mirror.f k (zero c)).bind fun t106 => ((diaphoneref05_before.f k (zero c) t106).bind fun t109 => (if t109 = true then (some (zero c)) else ((diaphoneref05_mirror.f k (zero c)).bind fun t110 => (some t110))))) ?_ fun k => ?_
    · refine Ev.bind (rmirror_ev h.zero_small (by omega)) ?_
      refine Ev.bind (before_ev _ _ (by omega) (by rw [mir_len])) ?_
      have ha := lexI_anti (mir (zero c)) (zero c)
      unfold nf
      by_cases hlt : lexI (mir (zero c)) (zero c) < 0
      · rw [if_pos hlt]
        simp only [decide_eq_true_eq, if_neg (show ¬ lexI (zero c) (mir (zero c)) ≤ 0 by omega)]
        exact Ev.bind (rmirror_ev h.zero_small (by omega)) (Ev.pure _)
      · rw [if_neg hlt]
        simp only [decide_eq_true_eq, if_pos (show lexI (zero c) (mir (zero c)) ≤ 0 by omega)]
        exact Ev.pure _
    · rw [diaphoneref05_normal.l0, if_neg (by omega)]
  | succ m ih =>
    intro i hm hi
    have hlt : i < c.length := by omega
    refine Ev.step (ih (i + 1) (by omega) (by omega)) fun k => ?_
    have hr := h.range hlt
    have hr0 := h.range h0
    rw [diaphoneref05_normal.l0, if_pos (by omega), if_pos (by omega), if_pos (by omega), if_pos (by simp; omega), rd_at, rd_zero, wrap_of (by omega) (by omega), wrap_succ (by omega)]
    congr 1
    rw [List.take_succ_eq_append_getElem (by omega), ← at_lt, zero_at hlt]
theorem rnormal_ev {c : List Int} (h : V c) : Ev (fun k => diaphoneref05_normal.f k c) (nf c) := by
  unfold diaphoneref05_normal.f
  have := rnormal_l0 h c.length 0 (by omega) (by omega)
  simpa using this

/-! ### Normal, Same, Alike -/
theorem Normal_ev (c : List Int) : Ev (fun k => echo_Normal.f k c) (if vErr c = 0 then nf c else [], vErr c) := by
  unfold echo_Normal.f
  refine Ev.bind (validate_ev c) ?_
  by_cases h : vErr c = 0
  · simp only [if_pos h]
    rw [h]
    exact Ev.bind (normal_ev (vErr_zero h)) (Ev.pure _)
  · simp only [if_neg h]
    exact Ev.pure _
theorem RNormal_ev (c : List Int) : Ev (fun k => diaphoneref05_Normal.f k c) (if vErr c = 0 then nf c else [], vErr c) := by
  unfold diaphoneref05_Normal.f
  refine Ev.bind (rvalidate_ev c) ?_
  by_cases h : vErr c = 0
  · simp only [if_pos h]
    rw [h]
    exact Ev.bind (rnormal_ev (vErr_zero h)) (Ev.pure _)
  · simp only [if_neg h]
    exact Ev.pure _
def bErr (c d : List Int) : Int := if vErr c = 0 then vErr d else vErr c
theorem bErr_zero {c d : List Int} (h : bErr c d = 0) : V c ∧ V d := by
  unfold bErr at h
  split at h
  · rename_i h1
    exact ⟨vErr_zero h1, vErr_zero h⟩
  · contradiction
theorem bErr_of {c d : List Int} (h : V c) (h' : V d) : bErr c d = 0 := by
  unfold bErr
  rw [if_pos (vErr_of h), vErr_of h']
theorem both_ev (c d : List Int) : Ev (fun k => echo_both.f k c d) (bErr c d) := by
  unfold echo_both.f bErr
  refine Ev.bind (validate_ev c) ?_
  by_cases h : vErr c = 0
  · simp only [if_pos h]
    exact Ev.bind (validate_ev d) (Ev.pure _)
  · simp only [if_neg h]
    exact Ev.pure _
theorem two_ev (c d : List Int) : Ev (fun k => diaphoneref05_two.f k c d) (bErr c d) := by
  unfold diaphoneref05_two.f bErr
  refine Ev.bind (rvalidate_ev c) ?_
  by_cases h : vErr c = 0
  · simp only [if_pos h]
    exact Ev.bind (rvalidate_ev d) (Ev.pure _)
  · simp only [if_neg h]
    exact Ev.pure _
theorem eq_ev (x y : List Int) (hx : x.length ≤ 1000000) : Ev (fun k => slices_Equal_int_int.f k x y) (decide (x = y)) := Ev.of (x.length + 1) (fun k hk => equal_ev x y (by omega) k (by omega))
theorem Same_ev (c d : List Int) : Ev (fun k => echo_Same.f k c d) (if bErr c d = 0 then decide (dl c = dl d) else false, bErr c d) := by
  unfold echo_Same.f
  refine Ev.bind (both_ev c d) ?_
  by_cases h : bErr c d = 0
  · simp only [if_pos h]
    rw [h]
    obtain ⟨h1, h2⟩ := bErr_zero h
    exact Ev.bind (delays_ev h1.small) (Ev.bind (delays_ev h2.small) (Ev.bind (eq_ev _ _ (dl_len h1.small)) (Ev.pure _)))
  · simp only [if_neg h]
    exact Ev.pure _
theorem RSame_ev (c d : List Int) : Ev (fun k => diaphoneref05_Same.f k c d) (if bErr c d = 0 then decide (dl c = dl d) else false, bErr c d) := by
  unfold diaphoneref05_Same.f
  refine Ev.bind (two_ev c d) ?_
  by_cases h : bErr c d = 0
  · simp only [if_pos h]
    rw [h]
    obtain ⟨h1, h2⟩ := bErr_zero h
    exact Ev.bind (rdelays_ev h1.small) (Ev.bind (rdelays_ev h2.small) (Ev.bind (same_ev _ _ (by have := dl_len h1.small; unfold dl at this; omega)) (Ev.pure _)))
  · simp only [if_neg h]
    exact Ev.pure _
theorem Alike_ev (c d : List Int) : Ev (fun k => echo_Alike.f k c d) (if bErr c d = 0 then decide (nf c = nf d) else false, bErr c d) := by
  unfold echo_Alike.f
  refine Ev.bind (both_ev c d) ?_
  by_cases h : bErr c d = 0
  · simp only [if_pos h]
    rw [h]
    obtain ⟨h1, h2⟩ := bErr_zero h
    exact Ev.bind (normal_ev h1) (Ev.bind (normal_ev h2) (Ev.bind (eq_ev _ _ (by rw [nf_len]; have := h1.six; omega)) (Ev.pure _)))
  · simp only [if_neg h]
    exact Ev.pure _
theorem RAlike_ev (c d : List Int) : Ev (fun k => diaphoneref05_Alike.f k c d) (if bErr c d = 0 then decide (nf c = nf d) else false, bErr c d) := by
  unfold diaphoneref05_Alike.f
  refine Ev.bind (two_ev c d) ?_
  by_cases h : bErr c d = 0
  · simp only [if_pos h]
    rw [h]
    obtain ⟨h1, h2⟩ := bErr_zero h
    exact Ev.bind (rnormal_ev h1) (Ev.bind (rnormal_ev h2) (Ev.bind (same_ev _ _ (by rw [nf_len]; have := h1.six; omega)) (Ev.pure _)))
  · simp only [if_neg h]
    exact Ev.pure _

/-! ### The delays of the normal form -/
theorem dl_zero (c : List Int) : dl (zero c) = dl c := dl_shift c _
theorem dl_mir (c : List Int) : dl (mir c) = dl c := dl_mirror c _
theorem dl_nf (c : List Int) : dl (nf c) = dl c := by
  unfold nf
  split
  · rw [dl_mir, dl_zero]
  · rw [dl_zero]
theorem alike_same {c d : List Int} (h : nf c = nf d) : dl c = dl d := by rw [← dl_nf c, h, dl_nf]
end Go.Proofs.Ytlbhedhbakhhlaa.Q

/- The mirror image: right cliffs again, alike, with the same delays; by the code and by the document. -/
namespace Go.Proofs.Ytlbhedhbakhhlaa.Q
open Go.RowKit Go.Proofs.YtlbhedhbakhhlaaW.PrintWords Go.Proofs.YtlbhedhbakhhlaaW.PrintLast Go.Proofs.YtlbhedhbakhhlaaW.PrintMore

theorem V.le {c : List Int} (h : V c) {i j : Nat} (hij : i ≤ j) (hj : j < c.length) : at_ c i ≤ at_ c j := by
  by_cases e : i = j
  · subst e; omega
  · have := h.lt (i := i) (j := j) (by omega) hj
    omega
theorem V.of_lt {c : List Int} (h0 : 0 < c.length) (h6 : c.length ≤ 6) (hr : ∀ i, i < c.length → -60 ≤ at_ c i ∧ at_ c i ≤ 60) (hs : ∀ i, i + 1 < c.length → at_ c i < at_ c (i + 1)) (hp : at_ c (c.length - 1) - at_ c 0 ≤ 60) : V c := by
  refine ⟨h0, h6, fun i hi hb => ?_, hp⟩
  have h1 := hr i hi
  unfold badAt at hb
  by_cases e : 0 < i
  · have := hs (i - 1) (by omega)
    rw [show i - 1 + 1 = i by omega] at this
    omega
  · omega
theorem V.mir {c : List Int} (h : V c) : V (mir c) := by
  have h0 := h.pos
  have h6 := h.six
  refine V.of_lt (by rw [mir_len]; exact h0) (by rw [mir_len]; exact h6) (fun i hi => ?_) (fun i hi => ?_) ?_
  · rw [mir_len] at hi
    rw [mir_at hi]
    have a := h.le (i := 0) (j := c.length - 1 - i) (by omega) (by omega)
    have b := h.le (i := c.length - 1 - i) (j := c.length - 1) (by omega) (by omega)
    have d := h.range h0
    have e := h.range (i := c.length - 1) (by omega)
    omega
  · rw [mir_len] at hi
    rw [mir_at (by omega), mir_at hi]
    have := h.lt (i := c.length - 1 - (i + 1)) (j := c.length - 1 - i) (by omega) (by omega)
    omega
  · rw [mir_len, mir_at (by omega), mir_at h0, show c.length - 1 - 0 = c.length - 1 by omega, show c.length - 1 - (c.length - 1) = 0 by omega]
    have := h.span
    omega
theorem Mirror_ev (c : List Int) : Ev (fun k => echo_Mirror.f k c) (if vErr c = 0 then mir c else [], vErr c) := by
  unfold echo_Mirror.f
  refine Ev.bind (validate_ev c) ?_
  by_cases h : vErr c = 0
  · simp only [if_pos h]
    rw [h, mirror_f (vErr_zero h).small (vErr_zero h).pos]
    exact Ev.pure _
  · simp only [if_neg h]
    exact Ev.pure _
theorem RMirror_ev (c : List Int) : Ev (fun k => diaphoneref05_Mirror.f k c) (if vErr c = 0 then mir c else [], vErr c) := by
  unfold diaphoneref05_Mirror.f
  refine Ev.bind (rvalidate_ev c) ?_
  by_cases h : vErr c = 0
  · simp only [if_pos h]
    rw [h]
    exact Ev.bind (rmirror_ev (vErr_zero h).small (vErr_zero h).pos) (Ev.pure _)
  · simp only [if_neg h]
    exact Ev.pure _
theorem mir_zero {c : List Int} (h0 : 0 < c.length) : zero (mir c) = mir (zero c) := by
  refine ext_at (by rw [zero_len, mir_len, mir_len, zero_len]) fun i hi => ?_
  rw [zero_len, mir_len] at hi
  rw [zero_at (by rw [mir_len]; exact hi), mir_at hi, mir_at h0, mir_at (by rw [zero_len]; exact hi), zero_len, zero_at h0, zero_at (by omega), zero_at (by omega), show c.length - 1 - 0 = c.length - 1 by omega]
  omega
theorem nf_mir {c : List Int} (h0 : 0 < c.length) : nf (mir c) = nf c := by
  have hz : 0 < (zero c).length := by rw [zero_len]; exact h0
  unfold nf
  rw [mir_zero h0, mir_mir hz]
  have ha := lexI_anti (mir (zero c)) (zero c)
  by_cases h1 : lexI (zero c) (mir (zero c)) < 0
  · rw [if_pos h1, if_neg (by omega)]
  · rw [if_neg h1]
    by_cases h2 : lexI (mir (zero c)) (zero c) < 0
    · rw [if_pos h2]
    · rw [if_neg h2]
      exact lexI_zero _ _ (by omega)
end Go.Proofs.Ytlbhedhbakhhlaa.Q

/- Of equal neighbours one stays: what remains of a sorted list is each element once. -/
namespace Go.Proofs.Ytlbhedhbakhhlaa.Q
open Go.RowKit
section
variable {α : Type} [Inhabited α] [DecidableEq α]
theorem upto_mem (d : Array α) : ∀ m, m ≤ d.size → ∀ x, x ∈ Lib.compactUpTo d m ↔ ∃ j, j < m ∧ d[j]! = x
  | 0, _, x => by simp [Lib.compactUpTo]
  | m + 1, h, x => by
    rw [Lib.compactUpTo_succ, List.mem_append, upto_mem d m (by omega) x]
    constructor
    · rintro (⟨j, h1, h2⟩ | hx)
      · exact ⟨j, by omega, h2⟩
      · split at hx
        · exact ⟨m, by omega, (List.mem_singleton.1 hx).symm⟩
        · cases hx
    · rintro ⟨j, h1, h2⟩
      by_cases e : j = m
      · subst e
        by_cases hk : Lib.keeps d j = true
        · rw [if_pos hk]; exact .inr (List.mem_singleton.2 h2.symm)
        · unfold Lib.keeps at hk
          simp only [decide_eq_true_eq, not_or, ne_eq, Decidable.not_not] at hk
          exact .inl ⟨j - 1, by omega, by rw [← hk.2]; exact h2⟩
      · exact .inl ⟨j, by omega, h2⟩
theorem compact_mem (zs : List α) (x : α) : x ∈ Lib.compact zs ↔ x ∈ zs := by
  unfold Lib.compact
  rw [upto_mem _ _ (by simp)]
  constructor
  · rintro ⟨j, h1, rfl⟩
    rw [getElem!_pos _ _ (by simpa using h1)]
    simp
  · intro h
    obtain ⟨j, hj, rfl⟩ := List.mem_iff_getElem.1 h
    exact ⟨j, hj, by rw [getElem!_pos _ _ (by simpa using hj)]; simp⟩
theorem upto_nodup {le : α → α → Prop} (hanti : ∀ a b, le a b → le b a → a = b) (zs : List α) (hs : zs.Pairwise le) : ∀ m, m ≤ zs.length → (Lib.compactUpTo zs.toArray m).Nodup
  | 0, _ => by simp [Lib.compactUpTo]
  | m + 1, h => by
    rw [Lib.compactUpTo_succ, List.nodup_append]
    refine ⟨upto_nodup hanti zs hs m (by omega), by split <;> simp, ?_⟩
    intro a ha b hb he
    subst he
    obtain ⟨j, hj, hja⟩ := (upto_mem _ _ (by simp; omega) a).1 ha
    split at hb
    · rename_i hk
      have hb' := List.mem_singleton.1 hb
      have hg : ∀ i (hi : i < zs.length), zs.toArray[i]! = zs[i] := fun i hi => by rw [getElem!_pos _ _ (by simpa using hi)]; simp
      have hp := List.pairwise_iff_getElem.1 hs
      unfold Lib.keeps at hk
      simp only [decide_eq_true_eq] at hk
      rcases hk with hk | hk
      · omega
      · apply hk
        rw [hg j (by omega)] at hja
        rw [hg m (by omega)] at hb' hk ⊢
        rw [hg (m - 1) (by omega)] at hk ⊢
        by_cases e : j = m - 1
        · subst e; rw [hja, ← hb']
        · have h1 := hp j (m - 1) (by omega) (by omega) (by omega)
          have h2 := hp (m - 1) m (by omega) (by omega) (by omega)
          rw [hja, hb'] at h1
          exact hanti _ _ h1 h2
    · cases hb
theorem compact_nodup {le : α → α → Prop} (hanti : ∀ a b, le a b → le b a → a = b) (zs : List α) (hs : zs.Pairwise le) : (Lib.compact zs).Nodup := upto_nodup hanti zs hs zs.length (Nat.le_refl _)
theorem upto_sub (zs : List α) : ∀ m, m ≤ zs.length → (Lib.compactUpTo zs.toArray m).Sublist (zs.take m)
  | 0, _ => by simp [Lib.compactUpTo]
  | m + 1, h => by
    rw [Lib.compactUpTo_succ, List.take_succ_eq_append_getElem (by omega)]
    refine List.Sublist.append (upto_sub zs m (by omega)) ?_
    split
    · rw [getElem!_pos _ _ (by simp; omega)]
      simp
    · exact List.nil_sublist _
theorem compact_sub (zs : List α) : (Lib.compact zs).Sublist zs := by
  have := upto_sub zs zs.length (Nat.le_refl _)
  rw [List.take_length] at this
  exact this
end
end Go.Proofs.Ytlbhedhbakhhlaa.Q

/- The chapter's examples hold. -/
namespace Go.Proofs.Ytlbhedhbakhhlaa.Q
open Go.RowKit Go.Proofs.YtlbhedhbakhhlaaW.PrintWords Go.Proofs.YtlbhedhbakhhlaaW.PrintLast Go.Proofs.YtlbhedhbakhhlaaW.PrintMore

theorem Ev.mono {α : Type} {f : Nat → Option α} {r : α} (hm : ∀ k, LeO (f k) (f (k + 1))) (K : Nat) (h : f K = some r) : Ev f r := by
  refine ⟨K, fun k hk => ?_⟩
  induction k with
  | zero => obtain rfl : K = 0 := by omega
            exact h
  | succ k ih =>
    by_cases e : K = k + 1
    · rw [← e]; exact h
    · exact hm k r (ih (by omega))
set_option maxRecDepth 100000 in
theorem sane_60 : diaphonelaw05_sane.f 60 = some true := by kernel_rfl
theorem sane_ev : Ev (fun k => diaphonelaw05_sane.f k) true := Ev.mono diaphonelaw05_sane.mono 60 sane_60
theorem sane_end : Ev (fun k => (diaphonelaw05_sane.f k).bind fun t => some t) true := Ev.bind sane_ev (Ev.pure _)
end Go.Proofs.Ytlbhedhbakhhlaa.Q

/- The errors of claimed delays and of CheckCliffs, by the code and by the document. -/
namespace Go.Proofs.Ytlbhedhbakhhlaa.Q
open Go.RowKit Go.Proofs.YtlbhedhbakhhlaaW.PrintWords Go.Proofs.YtlbhedhbakhhlaaW.PrintLast Go.Proofs.YtlbhedhbakhhlaaW.PrintMore

/-! ### slices.Index, slices.Contains -/
def fidx (v : Int) : List Int → Nat → Int
  | [], _ => -1
  | x :: t, n => if v = x then (n : Int) else fidx v t (n + 1)
theorem fidx_spec (v : Int) : ∀ (l : List Int) (n : Nat), (fidx v l n = -1 ∧ v ∉ l) ∨ ∃ j, j < l.length ∧ fidx v l n = ((n + j : Nat) : Int) ∧ v ∈ l ∧ l.eraseIdx j = l.erase v
  | [], n => .inl ⟨rfl, by simp⟩
  | x :: t, n => by
    unfold fidx
    by_cases h : v = x
    · subst h
      exact .inr ⟨0, by simp, by simp, by simp, by simp⟩
    · rw [if_neg h]
      rcases fidx_spec v t (n + 1) with ⟨h1, h2⟩ | ⟨j, h1, h2, h3, h4⟩
      · exact .inl ⟨h1, by simp [h, h2]⟩
      · refine .inr ⟨j + 1, by simp; omega, by rw [h2]; congr 1; omega, by simp [h3], ?_⟩
        rw [List.eraseIdx_cons_succ, h4, List.erase_cons_tail (by simpa using Ne.symm h)]
theorem index_l0 (l : List Int) (v : Int) (hl : l.length ≤ 1000000) : ∀ m i, l.length - i = m → i ≤ l.length → Ev (fun k => slices_Index_int_int.l0 k l v (l.length : Int) (i : Int)) (fidx v (l.drop i) i) := by
  intro m
  induction m with
  | zero =>
    intro i hm hi
    rw [List.drop_of_length_le (by omega)]
    refine Ev.step (Ev.pure _) fun k => ?_
    rw [slices_Index_int_int.l0, if_neg (by omega)]
    rfl
  | succ m ih =>
    intro i hm hi
    have hlt : i < l.length := by omega
    rw [List.drop_eq_getElem_cons hlt, fidx]
    by_cases h : v = l[i]
    · rw [if_pos h]
      refine Ev.step (Ev.pure _) fun k => ?_
      rw [slices_Index_int_int.l0, if_pos (by omega), if_pos (by omega), if_pos (by omega), rd_lt l i hlt, if_pos h]
    · rw [if_neg h]
      refine Ev.step (ih (i + 1) (by omega) (by omega)) fun k => ?_
      rw [slices_Index_int_int.l0, if_pos (by omega), if_pos (by omega), if_pos (by omega), rd_lt l i hlt, if_neg h, wrap_succ (by omega)]
theorem index_ev (l : List Int) (v : Int) (hl : l.length ≤ 1000000) : Ev (fun k => slices_Index_int_int.f k l v) (fidx v l 0) := by
  unfold slices_Index_int_int.f
  have := index_l0 l v hl l.length 0 (by omega) (by omega)
  simpa using this
theorem contains_ev (l : List Int) (v : Int) (hl : l.length ≤ 1000000) : Ev (fun k => slices_Contains_int_int.f k l v) (decide (v ∈ l)) := by
  unfold slices_Contains_int_int.f
  refine Ev.bind (index_ev l v hl) ?_
  have e : decide (fidx v l 0 ≥ 0) = decide (v ∈ l) := by
    rcases fidx_spec v l 0 with ⟨h1, h2⟩ | ⟨j, h1, h2, h3, h4⟩
    · rw [h1]; simp [h2]
    · rw [h2]; simp [h3]
  rw [e]
  exact Ev.pure _

/-! ### slices.IsSorted, slices.ContainsFunc -/
def Srt (l : List Int) : Prop := ∀ i, i < l.length → 0 < i → at_ l (i - 1) ≤ at_ l i
instance (l : List Int) : Decidable (Srt l) := inferInstanceAs (Decidable (∀ i, i < l.length → 0 < i → at_ l (i - 1) ≤ at_ l i))
theorem less_int (a b : Int) : cmp_Less_int.f a b = some (decide (a < b)) := by
  simp only [cmp_Less_int.f, cmp_isNaN_int.f, Option.bind_some, bne_self_eq_false, Bool.false_eq_true, if_false]
theorem isSorted_l0 (l : List Int) (hl : l.length ≤ 1000000) : ∀ n, n < l.length ∨ n = 0 → (∀ i, n < i → i < l.length → at_ l (i - 1) ≤ at_ l i) → Ev (fun k => slices_IsSorted_int_int.l0 k l (n : Int)) (decide (Srt l)) := by
  intro n
  induction n with
  | zero =>
    intro _ hs
    have e : decide (Srt l) = true := decide_eq_true (fun i h1 h2 => hs i h2 h1)
    rw [e]
    refine Ev.step (Ev.pure _) fun k => ?_
    rw [slices_IsSorted_int_int.l0, if_neg (by omega)]
  | succ n ih =>
    intro hn hs
    have hn' : n + 1 < l.length := by omega
    by_cases h : at_ l (n + 1) < at_ l n
    · have e : decide (Srt l) = false := decide_eq_false (fun hh => by
        have := hh (n + 1) hn' (by omega)
        rw [Nat.add_sub_cancel] at this
        omega)
      rw [e]
      refine Ev.step (Ev.pure _) fun k => ?_
      rw [slices_IsSorted_int_int.l0, if_pos (by omega), if_pos (by omega), if_pos (by omega), wrap_pred (by omega) (by omega), if_pos (by omega), if_pos (by omega), less_int, Option.bind_some, rd_at, rd_at, if_pos (by simpa using h)]
    · refine Ev.step (ih (by omega) (fun i h1 h2 => ?_)) fun k => ?_
      · by_cases e : i = n + 1
        · subst e; rw [Nat.add_sub_cancel]; omega
        · exact hs i (by omega) h2
      · rw [slices_IsSorted_int_int.l0, if_pos (by omega), if_pos (by omega), if_pos (by omega), wrap_pred (by omega) (by omega), if_pos (by omega), if_pos (by omega), less_int, Option.bind_some, rd_at, rd_at, if_neg (by simpa using h), Nat.add_sub_cancel]
theorem isSorted_ev (l : List Int) (hl : l.length ≤ 1000000) : Ev (fun k => slices_IsSorted_int_int.f k l) (decide (Srt l)) := by
  unfold slices_IsSorted_int_int.f
  by_cases h : l.length = 0
  · have e : decide (Srt l) = true := decide_eq_true (fun i h1 _ => by omega)
    rw [h, e]
    refine Ev.step (Ev.pure _) fun k => ?_
    rw [slices_IsSorted_int_int.l0, if_neg (by rw [wrap_of (by omega) (by omega)]; omega)]
  · rw [wrap_pred (by omega) (by omega)]
    exact isSorted_l0 l hl (l.length - 1) (by omega) (fun i h1 h2 => by omega)
def In60 (l : List Int) : Prop := ∀ i, i < l.length → 1 ≤ at_ l i ∧ at_ l i ≤ 60
instance (l : List Int) : Decidable (In60 l) := inferInstanceAs (Decidable (∀ i, i < l.length → 1 ≤ at_ l i ∧ at_ l i ≤ 60))
theorem claimed1 (x : Int) : echo_claimed_1.f x = some (!decide (1 ≤ x ∧ x ≤ 60)) := by
  unfold echo_claimed_1.f
  rw [within_echo]
  rfl
theorem indexFunc_l0 (l : List Int) (hl : l.length ≤ 1000000) : ∀ m i, l.length - i = m → i ≤ l.length → (∀ j, j < i → 1 ≤ at_ l j ∧ at_ l j ≤ 60) →
    ∃ r, Ev (fun k => slices_IndexFunc_int_int.l0 k l (l.length : Int) (i : Int)) r ∧ (0 ≤ r ↔ ¬ In60 l) := by
  intro m
  induction m with
  | zero =>
    intro i hm hi hj
    refine ⟨-1, Ev.step (Ev.pure _) fun k => ?_, by simp; exact fun j h => hj j (by omega)⟩
    rw [slices_IndexFunc_int_int.l0, if_neg (by omega)]
  | succ m ih =>
    intro i hm hi hj
    have hlt : i < l.length := by omega
    by_cases h : 1 ≤ at_ l i ∧ at_ l i ≤ 60
    · obtain ⟨r, h1, h2⟩ := ih (i + 1) (by omega) (by omega) (fun j h' => by
        by_cases e : j = i
        · subst e; exact h
        · exact hj j (by omega))
      refine ⟨r, Ev.step h1 fun k => ?_, h2⟩
      rw [slices_IndexFunc_int_int.l0, if_pos (by omega), if_pos (by omega), if_pos (by omega), claimed1, Option.bind_some, rd_at, if_neg (by simp; omega), wrap_succ (by omega)]
    · refine ⟨i, Ev.step (Ev.pure _) fun k => ?_, ?_⟩
      · rw [slices_IndexFunc_int_int.l0, if_pos (by omega), if_pos (by omega), if_pos (by omega), claimed1, Option.bind_some, rd_at, if_pos (by simp; omega)]
      · exact ⟨fun _ hh => h (hh i hlt), fun _ => by omega⟩
theorem containsFunc_ev (l : List Int) (hl : l.length ≤ 1000000) : Ev (fun k => slices_ContainsFunc_int_int.f k l 0) (decide (¬ In60 l)) := by
  unfold slices_ContainsFunc_int_int.f slices_IndexFunc_int_int.f
  obtain ⟨r, h1, h2⟩ := indexFunc_l0 l hl l.length 0 (by omega) (by omega) (fun j h => by omega)
  refine Ev.bind h1 ?_
  have e : decide (r ≥ 0) = decide (¬ In60 l) := by
    rw [decide_eq_decide]
    exact h2
  rw [e]
  exact Ev.pure _

/-! ### The errors of claimed delays -/
def pairsOk (n : Nat) : Prop := n = 0 ∨ n = 1 ∨ n = 3 ∨ n = 6 ∨ n = 10 ∨ n = 15
instance (n : Nat) : Decidable (pairsOk n) := inferInstanceAs (Decidable (_ ∨ _))
/-- Right claimed delays. -/
structure C (l : List Int) : Prop where
  n : pairsOk l.length
  srt : Srt l
  r : In60 l
instance (l : List Int) : Decidable (C l) := decidable_of_iff (pairsOk l.length ∧ Srt l ∧ In60 l) ⟨fun h => ⟨h.1, h.2.1, h.2.2⟩, fun h => ⟨h.n, h.srt, h.r⟩⟩
def cErr (l : List Int) : Int := if 15 < l.length then 3 else if C l then 0 else 1
theorem cErr_zero {l : List Int} (h : cErr l = 0) : C l := by
  unfold cErr at h
  split at h
  · cases h
  · split at h
    · assumption
    · cases h
theorem C.len {l : List Int} (h : C l) : l.length ≤ 15 := by
  have := h.n
  unfold pairsOk at this
  omega
theorem cErr_of {l : List Int} (h : C l) : cErr l = 0 := by
  unfold cErr
  rw [if_neg (by have := h.len; omega), if_pos h]
theorem claimed_ev (l : List Int) : Ev (fun k => echo_claimed.f k l) (cErr l) := by
  unfold echo_claimed.f
  by_cases h : 15 < l.length
  · have e : cErr l = 3 := by unfold cErr; rw [if_pos h]
    rw [e]
    simp only [if_pos (show (l.length : Int) > 15 by omega)]
    exact Ev.pure _
  · simp only [if_neg (show ¬ (l.length : Int) > 15 by omega)]
    refine Ev.bind (contains_ev _ _ (by simp)) ?_
    have e : decide ((l.length : Int) ∈ ([0, 1, 3, 6, 10, 15] : List Int)) = decide (pairsOk l.length) := by
      rw [decide_eq_decide]
      unfold pairsOk
      simp only [List.mem_cons, List.not_mem_nil, or_false]
      omega
    rw [e]
    by_cases h1 : pairsOk l.length
    · simp only [decide_eq_true h1, if_true]
      refine Ev.bind (isSorted_ev l (by omega)) ?_
      by_cases h2 : Srt l
      · simp only [decide_eq_true h2, if_true]
        refine Ev.bind (containsFunc_ev l (by omega)) ?_
        by_cases h3 : In60 l
        · rw [cErr_of ⟨h1, h2, h3⟩]
          simp only [decide_eq_false (show ¬ ¬ In60 l from fun hh => hh h3), Bool.false_eq_true, if_false]
          exact Ev.pure _
        · have e : cErr l = 1 := by unfold cErr; rw [if_neg h, if_neg (fun hc => h3 hc.r)]
          rw [e]
          simp only [decide_eq_true h3, if_true]
          exact Ev.pure _
      · have e : cErr l = 1 := by unfold cErr; rw [if_neg h, if_neg (fun hc => h2 hc.srt)]
        rw [e]
        simp only [decide_eq_false h2, Bool.false_eq_true, if_false]
        exact Ev.pure _
    · have e : cErr l = 1 := by unfold cErr; rw [if_neg h, if_neg (fun hc => h1 hc.n)]
      rw [e]
      simp only [decide_eq_false h1, Bool.false_eq_true, if_false]
      exact Ev.pure _

/-- How many cliffs have so many pairs; 0 for none. -/
def clf (p : Nat) : Int := if p = 0 then 1 else if p = 1 then 2 else if p = 3 then 3 else if p = 6 then 4 else if p = 10 then 5 else if p = 15 then 6 else 0
theorem cliffs_all : ∀ p : Fin 16, diaphoneref05_cliffs.f 10 (p.val : Int) = some (clf p.val) := by decide +kernel
theorem cliffs_ev (p : Nat) (h : p ≤ 15) : Ev (fun k => diaphoneref05_cliffs.f k (p : Int)) (clf p) :=
  Ev.mono (diaphoneref05_cliffs.mono (p : Int)) 10 (cliffs_all ⟨p, by omega⟩)
theorem clf_zero (p : Nat) : clf p = 0 ↔ ¬ pairsOk p := by
  unfold clf pairsOk
  split <;> (try split) <;> (try split) <;> (try split) <;> (try split) <;> (try split) <;> simp_all
theorem isDelays_l0 (l : List Int) (hl : l.length ≤ 15) : ∀ m i, l.length - i = m → i ≤ l.length → (∀ j, j < i → (1 ≤ at_ l j ∧ at_ l j ≤ 60) ∧ (0 < j → at_ l (j - 1) ≤ at_ l j)) → Ev (fun k => diaphoneref05_isDelays.l0 k l (i : Int)) (cErr l) := by
  intro m
  induction m with
  | zero =>
    intro i hm hi hj
    refine Ev.step (g := fun k => (diaphoneref05_cliffs.f k (l.length : Int)).bind fun t105 => (if t105 = 0 then (some 1) else (some 0))) ?_ fun k => ?_
    · refine Ev.bind (cliffs_ev l.length hl) ?_
      by_cases h : pairsOk l.length
      · rw [cErr_of ⟨h, fun i h1 h2 => (hj i (by omega)).2 h2, fun i h1 => (hj i (by omega)).1⟩]
        simp only [if_neg (show ¬ clf l.length = 0 from fun e => (clf_zero _).1 e h)]
        exact Ev.pure _
      · have e : cErr l = 1 := by unfold cErr; rw [if_neg (by omega), if_neg (fun hc => h hc.n)]
        rw [e]
        simp only [if_pos ((clf_zero _).2 h)]
        exact Ev.pure _
    · rw [diaphoneref05_isDelays.l0, if_neg (by omega)]
  | succ m ih =>
    intro i hm hi hj
    have hlt : i < l.length := by omega
    by_cases h : 1 ≤ at_ l i ∧ at_ l i ≤ 60
    · by_cases h2 : 0 < i ∧ at_ l i < at_ l (i - 1)
      · have e : cErr l = 1 := by unfold cErr; rw [if_neg (by omega), if_neg (fun hc => by have := hc.srt i hlt h2.1; omega)]
        rw [e]
        refine Ev.step (Ev.pure _) fun k => ?_
        rw [diaphoneref05_isDelays.l0, if_pos (by omega), if_pos (by omega), within_ref, Option.bind_some, rd_at, if_pos (by simpa using h), if_pos (by omega), wrap_pred (by omega) h2.1, if_pos (by omega), if_pos (by omega), rd_at, if_pos (by omega)]
      · refine Ev.step (ih (i + 1) (by omega) (by omega) (fun j h' => ?_)) fun k => ?_
        · by_cases e : j = i
          · subst e; exact ⟨h, fun h0 => by omega⟩
          · exact hj j (by omega)
        · rw [diaphoneref05_isDelays.l0, if_pos (by omega), if_pos (by omega), within_ref, Option.bind_some, rd_at, if_pos (by simpa using h), wrap_succ (by omega)]
          by_cases h0 : 0 < i
          · rw [if_pos (by omega), wrap_pred (by omega) h0, if_pos (by omega), if_pos (by omega), rd_at, if_neg (by omega)]
          · rw [if_neg (by omega)]
    · have e : cErr l = 1 := by unfold cErr; rw [if_neg (by omega), if_neg (fun hc => h (hc.r i hlt))]
      rw [e]
      refine Ev.step (Ev.pure _) fun k => ?_
      rw [diaphoneref05_isDelays.l0, if_pos (by omega), if_pos (by omega), within_ref, Option.bind_some, rd_at, if_neg (by simpa using h)]
theorem isDelays_ev (l : List Int) : Ev (fun k => diaphoneref05_isDelays.f k l) (cErr l) := by
  unfold diaphoneref05_isDelays.f
  by_cases h : 15 < l.length
  · have e : cErr l = 3 := by unfold cErr; rw [if_pos h]
    rw [e]
    simp only [if_pos (show (l.length : Int) > 15 by omega)]
    exact Ev.pure _
  · simp only [if_neg (show ¬ (l.length : Int) > 15 by omega)]
    exact isDelays_l0 l (by omega) l.length 0 (by omega) (by omega) (fun j h => by omega)

/-! ### CheckCliffs -/
def ccErr (l c : List Int) : Int := if cErr l = 0 then (if vErr c = 0 then (if dl c = l then 0 else 7) else vErr c) else cErr l
theorem CheckCliffs_ev (l c : List Int) : Ev (fun k => echo_CheckCliffs.f k l c) (ccErr l c) := by
  unfold echo_CheckCliffs.f ccErr
  refine Ev.bind (claimed_ev l) ?_
  by_cases h : cErr l = 0
  · simp only [if_pos h]
    refine Ev.bind (validate_ev c) ?_
    by_cases h2 : vErr c = 0
    · simp only [if_pos h2]
      have hs := (vErr_zero h2).small
      refine Ev.bind (delays_ev hs) ?_
      refine Ev.bind (Ev.of ((dl c).length + 1) (fun k hk => equal_ev (dl c) l (by have := dl_len hs; omega) k (by omega))) ?_
      by_cases h3 : dl c = l
      · simp only [decide_eq_true h3, if_true, if_pos h3]; exact Ev.pure _
      · simp only [decide_eq_false h3, Bool.false_eq_true, if_false, if_neg h3]; exact Ev.pure _
    · simp only [if_neg h2]; exact Ev.pure _
  · simp only [if_neg h]; exact Ev.pure _
theorem RCheckCliffs_ev (l c : List Int) : Ev (fun k => diaphoneref05_CheckCliffs.f k l c) (ccErr l c) := by
  unfold diaphoneref05_CheckCliffs.f ccErr
  refine Ev.bind (isDelays_ev l) ?_
  by_cases h : cErr l = 0
  · simp only [if_pos h]
    refine Ev.bind (rvalidate_ev c) ?_
    by_cases h2 : vErr c = 0
    · simp only [if_pos h2]
      have hs := (vErr_zero h2).small
      refine Ev.bind (rdelays_ev hs) ?_
      refine Ev.bind (same_ev (dl c) l (by have := dl_len hs; omega)) ?_
      by_cases h3 : dl c = l
      · simp only [decide_eq_true h3, if_true, if_pos h3]; exact Ev.pure _
      · simp only [decide_eq_false h3, Bool.false_eq_true, if_false, if_neg h3]; exact Ev.pure _
    · simp only [if_neg h2]; exact Ev.pure _
  · simp only [if_neg h]; exact Ev.pure _
end Go.Proofs.Ytlbhedhbakhhlaa.Q

/- The plain law of EchoMissing: which numbers are no delays, by the code and by the document; with the delays, each once, they are all up to the greatest one. -/
namespace Go.Proofs.Ytlbhedhbakhhlaa.Pure
open Go.RowKit Go.Proofs.Ytlbhedhbakhhlaa.Q

def up (n : Nat) : List Int := (List.range n).map fun i => ((i + 1 : Nat) : Int)
/-- Of 1 to n those that are not in d. -/
def M (d : List Int) (n : Nat) : List Int := (up n).filter fun x => !decide (x ∈ d)
theorem up_succ (n : Nat) : up (n + 1) = up n ++ [((n + 1 : Nat) : Int)] := by
  unfold up
  rw [List.range_succ, List.map_append]
  rfl
theorem up_len (n : Nat) : (up n).length = n := by simp [up]
theorem M_succ (d : List Int) (n : Nat) : M d (n + 1) = M d n ++ if ((n + 1 : Nat) : Int) ∈ d then [] else [((n + 1 : Nat) : Int)] := by
  unfold M
  rw [up_succ, List.filter_append]
  congr 1
  by_cases h : ((n + 1 : Nat) : Int) ∈ d
  · rw [if_pos h]; simp at h ⊢; exact h
  · rw [if_neg h]; simp at h ⊢; exact h
theorem M_len (d : List Int) (n : Nat) : (M d n).length ≤ n := by
  have := List.length_filter_le (fun x => !decide (x ∈ d)) (up n)
  rw [up_len] at this
  exact this
/-- The distance of the outermost. -/
def span (c : List Int) : Nat := (at_ c (c.length - 1) - at_ c 0).toNat
theorem span_eq {c : List Int} (h : V c) : ((span c : Nat) : Int) = at_ c (c.length - 1) - at_ c 0 ∧ span c ≤ 60 := by
  have h1 := h.le (i := 0) (j := c.length - 1) (by omega) (by have := h.pos; omega)
  have h2 := h.span
  unfold span
  omega
theorem missing_l0 {c : List Int} (h : V c) (d : List Int) (hd : d.length ≤ 1000000) : ∀ m i, span c - 1 - i = m → i ≤ span c - 1 → Ev (fun k => echo_Missing.l0 k c d (M d i) ((i + 1 : Nat) : Int)) (M d (span c - 1), (0 : Int)) := by
  have h0 := h.pos
  have h6 := h.six
  obtain ⟨hs, hs60⟩ := span_eq h
  have hr0 := h.range h0
  have hr1 := h.range (i := c.length - 1) (by omega)
  intro m
  induction m with
  | zero =>
    intro i hm hi
    have : i = span c - 1 := by omega
    subst this
    refine Ev.step (Ev.pure _) fun k => ?_
    rw [echo_Missing.l0, wrap_pred (by omega) h0, if_pos (by omega), if_pos (by omega), if_pos (by omega), rd_at, rd_zero, wrap_of (by omega) (by omega), if_neg (by omega)]
  | succ m ih =>
    intro i hm hi
    have hlen := M_len d i
    have hn := ih (i + 1) (by omega) (by omega)
    rw [M_succ] at hn
    by_cases hc : ((i + 1 : Nat) : Int) ∈ d
    · rw [if_pos hc, List.append_nil] at hn
      refine Ev.step (g := fun k => (slices_Contains_int_int.f k d ((i + 1 : Nat) : Int)).bind fun t107 => (if t107 = true then (echo_Missing.l0 k c d (M d i) (wrap64 (((i + 1 : Nat) : Int) + 1))) else (if (M d i).length < 17592186044416 then (echo_Missing.l0 k c d (M d i ++ [((i + 1 : Nat) : Int)]) (wrap64 (((i + 1 : Nat) : Int) + 1))) else (none)))) ?_ fun k => ?_
      · refine Ev.bind (contains_ev d _ hd) ?_
        simp only [decide_eq_true hc, if_true, wrap_succ (show i + 1 < 9223372036854775807 by omega)]
        exact hn
      · rw [echo_Missing.l0, wrap_pred (by omega) h0, if_pos (by omega), if_pos (by omega), if_pos (by omega), rd_at, rd_zero, wrap_of (show -9223372036854775808 ≤ at_ c (c.length - 1) - at_ c 0 by omega) (by omega), if_pos (by omega)]
    · rw [if_neg hc] at hn
      refine Ev.step (g := fun k => (slices_Contains_int_int.f k d ((i + 1 : Nat) : Int)).bind fun t107 => (if t107 = true then (echo_Missing.l0 k c d (M d i) (wrap64 (((i + 1 : Nat) : Int) + 1))) else (if (M d i).length < 17592186044416 then (echo_Missing.l0 k c d (M d i ++ [((i + 1 : Nat) : Int)]) (wrap64 (((i + 1 : Nat) : Int) + 1))) else (none)))) ?_ fun k => ?_
      · refine Ev.bind (contains_ev d _ hd) ?_
        simp only [decide_eq_false hc, Bool.false_eq_true, if_false, if_pos (show (M d i).length < 17592186044416 by omega), wrap_succ (show i + 1 < 9223372036854775807 by omega)]
        exact hn
      · rw [echo_Missing.l0, wrap_pred (by omega) h0, if_pos (by omega), if_pos (by omega), if_pos (by omega), rd_at, rd_zero, wrap_of (show -9223372036854775808 ≤ at_ c (c.length - 1) - at_ c 0 by omega) (by omega), if_pos (by omega)]
theorem Missing_ev (c : List Int) : Ev (fun k => echo_Missing.f k c) (if vErr c = 0 then M (dl c) (span c - 1) else [], vErr c) := by
  unfold echo_Missing.f
  refine Ev.bind (validate_ev c) ?_
  by_cases h : vErr c = 0
  · simp only [if_pos h]
    rw [h]
    have hv := vErr_zero h
    refine Ev.bind (delays_ev hv.small) ?_
    exact missing_l0 hv (dl c) (dl_len hv.small) _ 0 rfl (by omega)
  · simp only [if_neg h]
    exact Ev.pure _
theorem has_l0 (l : List Int) (v : Int) (hl : l.length ≤ 1000000) : ∀ m i, l.length - i = m → i ≤ l.length → Ev (fun k => diaphoneref05_Has.l0 k l v (i : Int)) (decide (v ∈ l.drop i)) := by
  intro m
  induction m with
  | zero =>
    intro i hm hi
    rw [List.drop_of_length_le (by omega)]
    refine Ev.step (Ev.pure _) fun k => ?_
    rw [diaphoneref05_Has.l0, if_neg (by omega)]
    rfl
  | succ m ih =>
    intro i hm hi
    have hlt : i < l.length := by omega
    rw [List.drop_eq_getElem_cons hlt]
    by_cases h : l[i] = v
    · have e : decide (v ∈ l[i] :: l.drop (i + 1)) = true := decide_eq_true (by rw [h]; exact List.mem_cons_self)
      rw [e]
      refine Ev.step (Ev.pure _) fun k => ?_
      rw [diaphoneref05_Has.l0, if_pos (by omega), if_pos (by omega), rd_lt l i hlt, if_pos h]
    · have e : decide (v ∈ l[i] :: l.drop (i + 1)) = decide (v ∈ l.drop (i + 1)) := by
        rw [decide_eq_decide, List.mem_cons]
        exact ⟨fun hh => hh.resolve_left (fun e => h e.symm), .inr⟩
      rw [e]
      refine Ev.step (ih (i + 1) (by omega) (by omega)) fun k => ?_
      rw [diaphoneref05_Has.l0, if_pos (by omega), if_pos (by omega), rd_lt l i hlt, if_neg h, wrap_succ (by omega)]
theorem has_ev (l : List Int) (v : Int) (hl : l.length ≤ 1000000) : Ev (fun k => diaphoneref05_Has.f k l v) (decide (v ∈ l)) := by
  unfold diaphoneref05_Has.f
  have := has_l0 l v hl l.length 0 (by omega) (by omega)
  simpa using this
theorem rmissing_l0 {c : List Int} (h : V c) (d : List Int) (hd : d.length ≤ 1000000) : ∀ m i, span c - 1 - i = m → i ≤ span c - 1 → Ev (fun k => diaphoneref05_Missing.l0 k c d (M d i) ((i + 1 : Nat) : Int)) (M d (span c - 1), (0 : Int)) := by
  have h0 := h.pos
  have h6 := h.six
  obtain ⟨hs, hs60⟩ := span_eq h
  have hr0 := h.range h0
  have hr1 := h.range (i := c.length - 1) (by omega)
  intro m
  induction m with
  | zero =>
    intro i hm hi
    have : i = span c - 1 := by omega
    subst this
    refine Ev.step (Ev.pure _) fun k => ?_
    rw [diaphoneref05_Missing.l0, wrap_pred (by omega) h0, if_pos (by omega), if_pos (by omega), if_pos (by omega), rd_at, rd_zero, wrap_of (by omega) (by omega), if_neg (by omega)]
  | succ m ih =>
    intro i hm hi
    have hlen := M_len d i
    have hn := ih (i + 1) (by omega) (by omega)
    rw [M_succ] at hn
    refine Ev.step (g := fun k => (diaphoneref05_Has.f k d ((i + 1 : Nat) : Int)).bind fun t107 => (if t107 = true then (diaphoneref05_Missing.l0 k c d (M d i) (wrap64 (((i + 1 : Nat) : Int) + 1))) else (if (M d i).length < 17592186044416 then (diaphoneref05_Missing.l0 k c d (M d i ++ [((i + 1 : Nat) : Int)]) (wrap64 (((i + 1 : Nat) : Int) + 1))) else (none)))) ?_ fun k => ?_
    · refine Ev.bind (has_ev d _ hd) ?_
      by_cases hc : ((i + 1 : Nat) : Int) ∈ d
      · rw [if_pos hc, List.append_nil] at hn
        simp only [decide_eq_true hc, if_true, wrap_succ (show i + 1 < 9223372036854775807 by omega)]
        exact hn
      · rw [if_neg hc] at hn
        simp only [decide_eq_false hc, Bool.false_eq_true, if_false, if_pos (show (M d i).length < 17592186044416 by omega), wrap_succ (show i + 1 < 9223372036854775807 by omega)]
        exact hn
    · rw [diaphoneref05_Missing.l0, wrap_pred (by omega) h0, if_pos (by omega), if_pos (by omega), if_pos (by omega), rd_at, rd_zero, wrap_of (show -9223372036854775808 ≤ at_ c (c.length - 1) - at_ c 0 by omega) (by omega), if_pos (by omega)]
theorem RMissing_ev (c : List Int) : Ev (fun k => diaphoneref05_Missing.f k c) (if vErr c = 0 then M (dl c) (span c - 1) else [], vErr c) := by
  unfold diaphoneref05_Missing.f
  refine Ev.bind (rvalidate_ev c) ?_
  by_cases h : vErr c = 0
  · simp only [if_pos h]
    rw [h]
    have hv := vErr_zero h
    refine Ev.bind (rdelays_ev hv.small) ?_
    exact rmissing_l0 hv (dl c) (dl_len hv.small) _ 0 rfl (by omega)
  · simp only [if_neg h]
    exact Ev.pure _

/-! ### The count -/
theorem D_mem (c : List Int) (n : Nat) (x : Int) : x ∈ D c n ↔ ∃ i j, j < i ∧ i < n ∧ x = at_ c i - at_ c j := by
  induction n with
  | zero => simp [D]
  | succ n ih =>
    rw [D, List.mem_append, ih]
    constructor
    · rintro (⟨i, j, h1, h2, h3⟩ | h)
      · exact ⟨i, j, h1, by omega, h3⟩
      · obtain ⟨j, hj, rfl⟩ := List.mem_map.1 h
        exact ⟨n, j, List.mem_range.1 hj, by omega, rfl⟩
    · rintro ⟨i, j, h1, h2, h3⟩
      by_cases e : i = n
      · subst e
        exact .inr (List.mem_map.2 ⟨j, List.mem_range.2 h1, h3.symm⟩)
      · exact .inl ⟨i, j, h1, by omega, h3⟩
theorem dl_mem (c : List Int) (x : Int) : x ∈ dl c ↔ ∃ i j, j < i ∧ i < c.length ∧ x = at_ c i - at_ c j := by
  rw [← D_mem]
  exact (isortI_perm _).mem_iff
theorem up_mem (n : Nat) (x : Int) : x ∈ up n ↔ 1 ≤ x ∧ x ≤ n := by
  unfold up
  rw [List.mem_map]
  constructor
  · rintro ⟨i, hi, rfl⟩
    have := List.mem_range.1 hi
    omega
  · intro h
    exact ⟨(x - 1).toNat, List.mem_range.2 (by omega), by omega⟩
theorem up_nodup (n : Nat) : (up n).Nodup := by
  unfold up
  exact List.Pairwise.map _ (fun a b h => by omega) List.nodup_range
theorem count_all {c : List Int} (h : V c) : (Lib.compact (dl c)).length + (M (dl c) (span c - 1)).length = span c := by
  obtain ⟨hs, hs60⟩ := span_eq h
  have h0 := h.pos
  by_cases h1 : c.length = 1
  · have hsp : span c = 0 := by
      rw [h1] at hs
      have : ((span c : Nat) : Int) = 0 := by rw [hs]; simp
      omega
    have hd : dl c = [] := by
      match hd : dl c with
      | [] => rfl
      | x :: t =>
        have := (dl_mem c x).1 (by rw [hd]; exact List.mem_cons_self)
        obtain ⟨i, j, a, b, _⟩ := this
        omega
    rw [hsp, hd]
    rfl
  · have hs1 : 1 ≤ span c := by
      have := h.lt (i := 0) (j := c.length - 1) (by omega) (by omega)
      omega
    have hin : ((span c : Nat) : Int) ∈ dl c := (dl_mem c _).2 ⟨c.length - 1, 0, by omega, by omega, hs⟩
    have hM : M (dl c) (span c) = M (dl c) (span c - 1) := by
      obtain ⟨n, hn⟩ : ∃ n, span c = n + 1 := ⟨span c - 1, by omega⟩
      rw [hn] at hin ⊢
      rw [M_succ, if_pos hin, List.append_nil, Nat.add_sub_cancel]
    have hF : (Lib.compact (dl c)).Perm ((up (span c)).filter fun x => decide (x ∈ dl c)) := by
      refine (List.perm_ext_iff_of_nodup (compact_nodup (le := fun a b => a ≤ b) (fun a b h1 h2 => by omega) (dl c) (isortI_sorted _)) ((up_nodup _).sublist List.filter_sublist)).2 fun x => ?_
      rw [compact_mem, List.mem_filter, up_mem]
      constructor
      · intro hx
        refine ⟨?_, by simpa using hx⟩
        obtain ⟨i, j, a, b, rfl⟩ := (dl_mem c x).1 hx
        have q1 := h.lt a b
        have q2 := h.le (i := 0) (j := j) (by omega) (by omega)
        have q3 := h.le (i := i) (j := c.length - 1) (by omega) (by omega)
        omega
      · rintro ⟨_, hx⟩
        simpa using hx
    rw [hF.length_eq, ← hM]
    have := List.length_eq_countP_add_countP (fun x => decide (x ∈ dl c)) (l := up (span c))
    rw [up_len, List.countP_eq_length_filter, List.countP_eq_length_filter] at this
    have e : (M (dl c) (span c)) = (up (span c)).filter fun x => decide ¬(decide (x ∈ dl c) = true) := by
      unfold M
      congr 1
      funext x
      by_cases hx : x ∈ dl c <;> simp [hx]
    rw [e]
    omega
theorem cnt_succ (d : List Int) (i : Nat) : (Lib.compactUpTo d.toArray (i + 1)).length = (Lib.compactUpTo d.toArray i).length + if Lib.keeps d.toArray i = true then 1 else 0 := by
  rw [Lib.compactUpTo_succ, List.length_append]
  split <;> rfl
theorem cnt_le (d : List Int) (i : Nat) : (Lib.compactUpTo d.toArray i).length ≤ i := by
  unfold Lib.compactUpTo
  rw [List.length_map]
  have := List.length_filter_le (Lib.keeps d.toArray) (List.range i)
  simpa using this
theorem law_l0 {c : List Int} (h : V c) : ∀ m i, (dl c).length - i = m → i ≤ (dl c).length →
    Ev (fun k => diaphonelaw05_EchoMissing.l0 k c (M (dl c) (span c - 1)) (dl c) 0 ((Lib.compactUpTo (dl c).toArray i).length : Int) (i : Int)) true := by
  have h0 := h.pos
  have h6 := h.six
  obtain ⟨hs, hs60⟩ := span_eq h
  have hr0 := h.range h0
  have hr1 := h.range (i := c.length - 1) (by omega)
  have hlen := dl_len h.small
  have hall := count_all h
  intro m
  induction m with
  | zero =>
    intro i hm hi
    have : i = (dl c).length := by omega
    subst this
    refine Ev.step sane_end fun k => ?_
    have e1 : wrap64 (((Lib.compactUpTo (dl c).toArray (dl c).length).length : Int) + ((M (dl c) (span c - 1)).length : Int)) = ((span c : Nat) : Int) := by
      unfold Lib.compact at hall
      rw [wrap_of (by omega) (by omega)]
      omega
    rw [diaphonelaw05_EchoMissing.l0, if_neg (by omega), if_pos rfl, wrap_pred (by omega) h0, if_pos (by omega), if_pos (by omega), if_pos (by omega), rd_at, rd_zero, e1, wrap_of (show -9223372036854775808 ≤ at_ c (c.length - 1) - at_ c 0 by omega) (by omega), if_pos hs]
  | succ m ih =>
    intro i hm hi
    have hlt : i < (dl c).length := by omega
    have hle := cnt_le (dl c) i
    have hn := ih (i + 1) (by omega) (by omega)
    rw [cnt_succ, keeps_at _ _ hlt] at hn
    refine Ev.step hn fun k => ?_
    rw [diaphonelaw05_EchoMissing.l0, if_pos (by omega)]
    by_cases hi0 : i = 0
    · subst hi0
      rw [if_pos (by omega), if_pos (by simp), wrap_succ (by omega), wrap_succ (by omega)]
    · rw [if_neg (by omega), if_pos (by omega), wrap_pred (by omega) (by omega), if_pos (by omega), if_pos (by omega), rd_at, rd_at]
      by_cases he : at_ (dl c) i = at_ (dl c) (i - 1)
      · rw [if_pos he, if_neg (by simp [hi0, he]), Nat.add_zero, wrap_succ (by omega)]
      · rw [if_neg he, if_pos (by simp [he]), wrap_succ (by omega), wrap_succ (by omega)]

theorem EchoMissing : diaphonelaw05_EchoMissing.Pure := by
  intro c _ _ _
  refine Ev.ex (r := true) ?_
  unfold diaphonelaw05_EchoMissing.f long1.f
  refine Ev.some_bind ?_
  by_cases hl : 100 < c.length
  · simp only [decide_eq_true hl, if_true]
    exact sane_end
  · simp only [decide_eq_false hl, Bool.false_eq_true, if_false]
    refine Ev.bind (Missing_ev c) ?_
    refine Ev.bind (RMissing_ev c) ?_
    have hs : (if vErr c = 0 then M (dl c) (span c - 1) else []).length < 9223372036854775807 := by
      split
      · rename_i h
        have := M_len (dl c) (span c - 1)
        have := (span_eq (vErr_zero h)).2
        omega
      · simp
    refine Ev.bind (same_ev _ _ hs) ?_
    simp only [decide_true, if_true, bne_self_eq_false]
    refine Ev.step (g := fun k => (echo_Delays.f k c).bind fun bt112 => (if vErr c = 0 then (diaphonelaw05_EchoMissing.l0 k c (if vErr c = 0 then M (dl c) (span c - 1) else []) bt112.1 bt112.2 0 0) else ((diaphonelaw05_sane.f k).bind fun t116 => (some t116)))) ?_ fun k => by rw [diaphonelaw05_EchoMissing.j0, if_neg (by decide)]
    refine Ev.bind (Delays_ev c) ?_
    by_cases h : vErr c = 0
    · simp only [if_pos h]
      rw [h]
      exact law_l0 (vErr_zero h) (dl c).length 0 (by omega) (by omega)
    · simp only [if_neg h]
      exact sane_end
end Go.Proofs.Ytlbhedhbakhhlaa.Pure

namespace Go.Proofs.Ytlbhedhbakhhlaa.echoMissing
open Go.ChangeShapes Go.WideShapes Go.ChangeAt Go.RowKit
open Go.ChangeMaps (open_string shut_string)
set_option linter.unusedVariables false
theorem own : ownKnob Try.prog.godebug = none := by kernel_rfl
theorem laidOut : laidOutB Try.prog = true := by kernel_rfl
def IsRow (k : IntKind) (w : World) (a : Option Addr) (len cap : Nat) (zs : List Int) : Prop :=
  (a = none ∧ len = 0 ∧ cap = 0 ∧ zs = []) ∨
  ∃ x, a = some x ∧ len ≤ cap ∧ cap ≤ maxLen ∧ zs.length = cap ∧ (∀ i, i < zs.length → w.cell? (x.add i) = some (.int k (zs.getD i 0))) ∧ ∀ n ∈ zs, (Lit.int k n).wf = true
set_option maxRecDepth 100000 in
theorem lifted (os : Os) (started : os.Started) (H : Type) (enc : TypeId × Value → H) :
    ReturnsInHanded {} Try.checked os 9 .any (Rows.echoMissingSpec.pre6 enc Try.prog Try.f9 Rows.echoMissingRow.domain false) (Rows.echoMissingSpec.post enc Try.prog Try.f9 false true false false) := by
  refine returnsInHanded_of_change_sized (C := Try.checked) own started (by kernel_rfl) Try.func9
    (ChangeSpec.witness6 (enc := enc) (C := Try.checked) false ⟨#[], #[.slice none 0 0], []⟩ 8 (by kernel_rfl) (by kernel_rfl) (by kernel_rfl) (by kernel_rfl)) ?_
  intro W base args ds gs before hval0 hW hcnd hsz0 _
  have hsz : (DataW.weightsEach Try.prog (Try.f9.params.toList ++ Rows.echoMissingSpec.plain.varTypes Try.prog) (ds ++ gs)).all (· ≤ reachBytes) = true := hsz0
  have hval : ∀ (j : Nat) t v, Try.f9.params[j]? = some t → args[j]? = some v → Value.okWide Try.prog W .any base t v := hval0
  have hW' := hW
  obtain ⟨p, q, hA0, hV, rfl, hfz, hnd⟩ := hW
  have hA : DataW.TrodAll enc Try.prog W 0 (fun _ => true) true Try.f9.params.toList args.toList ds p := hA0
  rw [Try.params9] at hA hval hsz
  obtain ⟨v0, vs0, d0, ds0, p0, q0, hargs, rfl, rfl, h0, r0⟩ := trodAll_cons hA
  obtain ⟨rfl, rfl, rfl⟩ := trodAll_nil r0
  obtain rfl : args = #[v0] := by cases args; simp_all
  obtain ⟨rfl, rfl⟩ := trodVars_none hV
  obtain ⟨a0, len0, cap0, rfl⟩ := okWide_slice Try.underlying22 (hval 0 22 v0 rfl rfl)
  have k0 := h0
  have lt0 : ∀ x ∈ p0, x.block < W.heap.size := by obtain ⟨m, hm⟩ := k0; exact DataW.trod_lt m _ _ _ hm
  obtain ⟨z0, w0⟩ : ∃ zs, IsRow .i64 W a0 len0 cap0 zs := by
    obtain ⟨fuel, hf⟩ := h0
    rcases open_ints Try.underlying22 Try.underlying3 (by kernel_rfl) hf with ⟨hcs, _⟩ | ⟨x, l, c, zs, hcs, _, hl, hm, hz, _, hcell, hwz⟩
    · simp [Value.cells] at hcs
      obtain ⟨rfl, rfl, rfl⟩ := hcs
      exact ⟨[], .inl ⟨rfl, rfl, rfl, rfl⟩⟩
    · simp [Value.cells] at hcs
      obtain ⟨rfl, rfl, rfl⟩ := hcs
      exact ⟨zs, .inr ⟨_, rfl, hl, hm, by simpa using hz, hcell, hwz⟩⟩
  have y0 : len0 * 8 ≤ 140737488351232 := Go.Proofs.YtlbhedhbakhhlaaW.PrintWords.sized_ints hsz (j := 0) (t := 22) rfl rfl Try.underlying22 Try.underlying3 (by kernel_rfl) (by kernel_rfl) h0
  clear hA0 hval0 hsz0 hsz
  refine (Q.diaphonelaw05_EchoMissing.walk Pure.EchoMissing a0 len0 cap0 z0 W w0 y0).mono fun e W' ⟨he, bel⟩ => ?_
  subst he
  exact ⟨_, rfl, _, _, _, [], _, [], hW', trodAll_mk1 (shut_bool Try.underlying4 _), (trodAll_cons_mk (Below.trod laidOut (by kernel_rfl) (of_decide_eq_true (by kernel_rfl)) k0 bel lt0) trodAll_mk0), rfl, bel.frame _, fun h => by cases h⟩
theorem over : Rows.echoMissingRow.holds Try.pinned (OpenSpec.ofChange Rows.echoMissingSpec) :=
  OpenClaim.holds_of_wide 9 Try.f9 rfl rfl rfl rfl rfl rfl rfl ⟨rfl, rfl, rfl, rfl, rfl⟩ rfl rfl rfl rfl rfl (by kernel_rfl) Try.func9 (by kernel_rfl)
    (of_decide_eq_true (by kernel_rfl)) (by unfold Func.isWrapper; first | (rw [if_pos (by decide +kernel)]; kernel_rfl) | (rw [if_neg (by decide +kernel)]; exact ⟨rfl, rfl⟩))
    (fun os started H enc _ => lifted os started H enc)
theorem proved : Rows.EchoMissingSaid := over
end Go.Proofs.Ytlbhedhbakhhlaa.echoMissing
namespace Go.Proofs.Ytlbhedhbakhhlaa
/-- The row, under a short name, for the claim. -/
theorem echoMissing_holds : Rows.EchoMissingSaid := echoMissing.proved
end Go.Proofs.Ytlbhedhbakhhlaa

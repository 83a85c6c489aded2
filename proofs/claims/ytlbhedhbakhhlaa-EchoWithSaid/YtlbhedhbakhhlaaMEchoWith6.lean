/- EchoWith: joined texts (6 of 6) of the proof that the given statement of this claim holds, for every input, without any condition of its own. -/
import Derived.Test.YtlbhedhbakhhlaaMEchoWith2
import Derived.Test.YtlbhedhbakhhlaaMEchoWith5
import Derived.Test.YtlbhedhbakhhlaaMEchoWith3
import Derived.Test.YtlbhedhbakhhlaaMEchoWith4
import Derived.Lib.SlicesCompact
import Derived.KernelRfl
import Derived.Test.YtlbhedhbakhhlaaRows
import Derived.WalkKit
import Derived.ProofKit
import Derived.OpenShut
import Derived.ShutString
import Derived.ChangeOld
import Derived.Below
import Derived.SizedLaws
import Derived.Test.YtlbhedhbakhhlaaMEchoWith1
set_option linter.unusedVariables false
set_option linter.unusedSimpArgs false

namespace Go.Proofs.Ytlbhedhbakhhlaa.Q
open Go.RowKit Go.Proofs.YtlbhedhbakhhlaaW.PrintWords Go.Proofs.YtlbhedhbakhhlaaW.PrintLast Go.Proofs.YtlbhedhbakhhlaaW.PrintMore
attribute [local go_sem] max2_int min2_int max_two min_two max_three min_three max_four min_four   -- for this text's walks alone
set_option linter.unusedVariables false
set_option linter.unusedSimpArgs false

/-! ### diaphonelaw05_EchoWith: function 12 -/
mutual
def diaphonelaw05_EchoWith.j0 : Nat → List Int → Int → List Int → Int → Bool → Option (Bool)
  | 0, _, _, _, _, _ => none
  | k + 1, x0, x1, x5, x6, x42 => if x42 = true then (some false) else (if x6 = 0 then ((echo_Delays.f k x0).bind fun bt113 => ((echo_Delays.f k x5).bind fun bt117 => ((echo_Heard.f k x0 x1).bind fun bt121 => (if bt113.2 = 0 then (if bt117.2 = 0 then (if bt121.2 = 0 then (if (bt117.1.length : Int) = (wrap64 ((bt113.1.length : Int) + (x0.length : Int))) then (diaphonelaw05_EchoWith.j1 k bt113.1 bt117.1 bt121.1 ((bt121.1.length : Int) != (x0.length : Int))) else (diaphonelaw05_EchoWith.j1 k bt113.1 bt117.1 bt121.1 true)) else (diaphonelaw05_EchoWith.j1 k bt113.1 bt117.1 bt121.1 true)) else (diaphonelaw05_EchoWith.j1 k bt113.1 bt117.1 bt121.1 true)) else (diaphonelaw05_EchoWith.j1 k bt113.1 bt117.1 bt121.1 true))))) else ((diaphonelaw05_sane.f k).bind fun t112 => (some t112)))
def diaphonelaw05_EchoWith.j1 : Nat → List Int → List Int → List Int → Bool → Option (Bool)
  | 0, _, _, _, _ => none
  | k + 1, x9, x11, x13, x88 => if x88 = true then (some false) else (diaphonelaw05_EchoWith.l0 k x9 x11 x13 0 0 0)
def diaphonelaw05_EchoWith.l0 : Nat → List Int → List Int → List Int → Int → Int → Int → Option (Bool)
  | 0, _, _, _, _, _, _ => none
  | k + 1, x9, x11, x13, x15, x16, x17 => if x17 < (x11.length : Int) then (if x15 < (x9.length : Int) then (if 0 ≤ x15 then (if 0 ≤ x17 then (if (rd x9 x15) < (rd x11 x17) then (diaphonelaw05_EchoWith.j3 k x9 x11 x13 x15 x16 x17 true) else (if x16 < (x13.length : Int) then (if 0 ≤ x16 then (diaphonelaw05_EchoWith.j3 k x9 x11 x13 x15 x16 x17 (decide ((rd x13 x16) < (wrap64 (2 * (rd x11 x17)))))) else (none)) else (diaphonelaw05_EchoWith.j3 k x9 x11 x13 x15 x16 x17 false))) else (none)) else (none)) else (if x16 < (x13.length : Int) then (if 0 ≤ x16 then (if 0 ≤ x17 then (diaphonelaw05_EchoWith.j3 k x9 x11 x13 x15 x16 x17 (decide ((rd x13 x16) < (wrap64 (2 * (rd x11 x17)))))) else (none)) else (none)) else (diaphonelaw05_EchoWith.j3 k x9 x11 x13 x15 x16 x17 false))) else ((diaphonelaw05_sane.f k).bind fun t125 => (some t125))
def diaphonelaw05_EchoWith.j3 : Nat → List Int → List Int → List Int → Int → Int → Int → Bool → Option (Bool)
  | 0, _, _, _, _, _, _, _ => none
  | k + 1, x9, x11, x13, x15, x16, x17, x127 => if x127 = true then (some false) else (if x15 < (x9.length : Int) then (if 0 ≤ x15 then (if 0 ≤ x17 then (if x17 < (x11.length : Int) then (diaphonelaw05_EchoWith.j4 k x9 x11 x13 x15 x16 x17 ((rd x9 x15) == (rd x11 x17))) else (none)) else (none)) else (none)) else (diaphonelaw05_EchoWith.j4 k x9 x11 x13 x15 x16 x17 false))
def diaphonelaw05_EchoWith.j4 : Nat → List Int → List Int → List Int → Int → Int → Int → Bool → Option (Bool)
  | 0, _, _, _, _, _, _, _ => none
  | k + 1, x9, x11, x13, x15, x16, x17, x142 => if x142 = true then (diaphonelaw05_EchoWith.l0 k x9 x11 x13 (wrap64 (x15 + 1)) x16 (wrap64 (x17 + 1))) else (if x16 < (x13.length : Int) then (if 0 ≤ x16 then (if 0 ≤ x17 then (if x17 < (x11.length : Int) then (if (rd x13 x16) = (wrap64 (2 * (rd x11 x17))) then (diaphonelaw05_EchoWith.l0 k x9 x11 x13 x15 (wrap64 (x16 + 1)) (wrap64 (x17 + 1))) else (some false)) else (none)) else (none)) else (none)) else (some false))
end
def diaphonelaw05_EchoWith.f (k : Nat) (l0 : List Int) (a1 : Int) : Option (Bool) := (long1.f l0).bind fun t101 => (if t101 = true then ((diaphonelaw05_sane.f k).bind fun t102 => (some t102)) else ((echo_With.f k l0 a1).bind fun bt103 => ((diaphoneref05_With.f k l0 a1).bind fun bt107 => ((diaphoneref05_SameInts.f k bt103.1 bt107.1).bind fun t111 => (if t111 = true then (diaphonelaw05_EchoWith.j0 k l0 a1 bt103.1 bt103.2 (bt103.2 != bt107.2)) else (diaphonelaw05_EchoWith.j0 k l0 a1 bt103.1 bt103.2 true))))))
theorem diaphonelaw05_EchoWith.mono_l : ∀ k, (∀ y0 y1 y2 y3 y4, LeO (diaphonelaw05_EchoWith.j0 k y0 y1 y2 y3 y4) (diaphonelaw05_EchoWith.j0 (k + 1) y0 y1 y2 y3 y4)) ∧ (∀ y0 y1 y2 y3, LeO (diaphonelaw05_EchoWith.j1 k y0 y1 y2 y3) (diaphonelaw05_EchoWith.j1 (k + 1) y0 y1 y2 y3)) ∧ (∀ y0 y1 y2 y3 y4 y5, LeO (diaphonelaw05_EchoWith.l0 k y0 y1 y2 y3 y4 y5) (diaphonelaw05_EchoWith.l0 (k + 1) y0 y1 y2 y3 y4 y5)) ∧ (∀ y0 y1 y2 y3 y4 y5 y6, LeO (diaphonelaw05_EchoWith.j3 k y0 y1 y2 y3 y4 y5 y6) (diaphonelaw05_EchoWith.j3 (k + 1) y0 y1 y2 y3 y4 y5 y6)) ∧ (∀ y0 y1 y2 y3 y4 y5 y6, LeO (diaphonelaw05_EchoWith.j4 k y0 y1 y2 y3 y4 y5 y6) (diaphonelaw05_EchoWith.j4 (k + 1) y0 y1 y2 y3 y4 y5 y6))
  | 0 => ⟨fun _ _ _ _ _ r h => by simp [diaphonelaw05_EchoWith.j0] at h, fun _ _ _ _ r h => by simp [diaphonelaw05_EchoWith.j1] at h, fun _ _ _ _ _ _ r h => by simp [diaphonelaw05_EchoWith.l0] at h, fun _ _ _ _ _ _ _ r h => by simp [diaphonelaw05_EchoWith.j3] at h, fun _ _ _ _ _ _ _ r h => by simp [diaphonelaw05_EchoWith.j4] at h⟩
  | k + 1 => by
    obtain ⟨ih0, ih1, ih2, ih3, ih4⟩ := diaphonelaw05_EchoWith.mono_l k
    refine ⟨?_, ?_, ?_, ?_, ?_⟩
    · intro y0 y1 y2 y3 y4
      unfold diaphonelaw05_EchoWith.j0
      repeat' first
      | (with_reducible exact ih0 _ _ _ _ _)
      | (with_reducible exact ih1 _ _ _ _)
      | (with_reducible exact ih2 _ _ _ _ _ _)
      | (with_reducible exact ih3 _ _ _ _ _ _ _)
      | (with_reducible exact ih4 _ _ _ _ _ _ _)
      | (with_reducible exact diaphonelaw05_sane.mono _)
      | (with_reducible exact diaphoneref05_SameInts.mono _ _ _)
      | (with_reducible exact diaphoneref05_With.mono _ _ _)
      | (with_reducible exact echo_Delays.mono _ _)
      | (with_reducible exact echo_Heard.mono _ _ _)
      | (with_reducible exact echo_With.mono _ _ _)
      | (with_reducible exact LeO.refl _)
      | (with_reducible exact LeO.none _)
      | (with_reducible refine LeO.ite ?_ ?_)
      | (with_reducible refine LeO.bind ?_ (fun _ => ?_))
      | exact ih0 _ _ _ _ _
      | exact ih1 _ _ _ _
      | exact ih2 _ _ _ _ _ _
      | exact ih3 _ _ _ _ _ _ _
      | exact ih4 _ _ _ _ _ _ _
      | exact diaphonelaw05_sane.mono _
      | exact diaphoneref05_SameInts.mono _ _ _
      | exact diaphoneref05_With.mono _ _ _
      | exact echo_Delays.mono _ _
      | exact echo_Heard.mono _ _ _
      | exact echo_With.mono _ _ _
      | exact LeO.none _
      | refine LeO.ite ?_ ?_
      | refine LeO.bind ?_ (fun _ => ?_)
    · intro y0 y1 y2 y3
      unfold diaphonelaw05_EchoWith.j1
      repeat' first
      | (with_reducible exact ih0 _ _ _ _ _)
      | (with_reducible exact ih1 _ _ _ _)
      | (with_reducible exact ih2 _ _ _ _ _ _)
      | (with_reducible exact ih3 _ _ _ _ _ _ _)
      | (with_reducible exact ih4 _ _ _ _ _ _ _)
      | (with_reducible exact diaphonelaw05_sane.mono _)
      | (with_reducible exact diaphoneref05_SameInts.mono _ _ _)
      | (with_reducible exact diaphoneref05_With.mono _ _ _)
      | (with_reducible exact echo_Delays.mono _ _)
      | (with_reducible exact echo_Heard.mono _ _ _)
      | (with_reducible exact echo_With.mono _ _ _)
      | (with_reducible exact LeO.refl _)
      | (with_reducible exact LeO.none _)
      | (with_reducible refine LeO.ite ?_ ?_)
      | (with_reducible refine LeO.bind ?_ (fun _ => ?_))
      | exact ih0 _ _ _ _ _
      | exact ih1 _ _ _ _
      | exact ih2 _ _ _ _ _ _
      | exact ih3 _ _ _ _ _ _ _
      | exact ih4 _ _ _ _ _ _ _
      | exact diaphonelaw05_sane.mono _
      | exact diaphoneref05_SameInts.mono _ _ _
      | exact diaphoneref05_With.mono _ _ _
      | exact echo_Delays.mono _ _
      | exact echo_Heard.mono _ _ _
      | exact echo_With.mono _ _ _
      | exact LeO.none _
      | refine LeO.ite ?_ ?_
      | refine LeO.bind ?_ (fun _ => ?_)
    · intro y0 y1 y2 y3 y4 y5
      unfold diaphonelaw05_EchoWith.l0
      repeat' first
      | (with_reducible exact ih0 _ _ _ _ _)
      | (with_reducible exact ih1 _ _ _ _)
      | (with_reducible exact ih2 _ _ _ _ _ _)
      | (with_reducible exact ih3 _ _ _ _ _ _ _)
      | (with_reducible exact ih4 _ _ _ _ _ _ _)
      | (with_reducible exact diaphonelaw05_sane.mono _)
      | (with_reducible exact diaphoneref05_SameInts.mono _ _ _)
      | (with_reducible exact diaphoneref05_With.mono _ _ _)
      | (with_reducible exact echo_Delays.mono _ _)
      | (with_reducible exact echo_Heard.mono _ _ _)
      | (with_reducible exact echo_With.mono _ _ _)
      | (with_reducible exact LeO.refl _)
      | (with_reducible exact LeO.none _)
      | (with_reducible refine LeO.ite ?_ ?_)
      | (with_reducible refine LeO.bind ?_ (fun _ => ?_))
      | exact ih0 _ _ _ _ _
      | exact ih1 _ _ _ _
      | exact ih2 _ _ _ _ _ _
      | exact ih3 _ _ _ _ _ _ _
      | exact ih4 _ _ _ _ _ _ _
      | exact diaphonelaw05_sane.mono _
      | exact diaphoneref05_SameInts.mono _ _ _
      | exact diaphoneref05_With.mono _ _ _
      | exact echo_Delays.mono _ _
      | exact echo_Heard.mono _ _ _
      | exact echo_With.mono _ _ _
      | exact LeO.none _
      | refine LeO.ite ?_ ?_
      | refine LeO.bind ?_ (fun _ => ?_)
    · intro y0 y1 y2 y3 y4 y5 y6
      unfold diaphonelaw05_EchoWith.j3
      repeat' first
      | (with_reducible exact ih0 _ _ _ _ _)
      | (with_reducible exact ih1 _ _ _ _)
      | (with_reducible exact ih2 _ _ _ _ _ _)
      | (with_reducible exact ih3 _ _ _ _ _ _ _)
      | (with_reducible exact ih4 _ _ _ _ _ _ _)
      | (with_reducible exact diaphonelaw05_sane.mono _)
      | (with_reducible exact diaphoneref05_SameInts.mono _ _ _)
      | (with_reducible exact diaphoneref05_With.mono _ _ _)
      | (with_reducible exact echo_Delays.mono _ _)
      | (with_reducible exact echo_Heard.mono _ _ _)
      | (with_reducible exact echo_With.mono _ _ _)
      | (with_reducible exact LeO.refl _)
      | (with_reducible exact LeO.none _)
      | (with_reducible refine LeO.ite ?_ ?_)
      | (with_reducible refine LeO.bind ?_ (fun _ => ?_))
      | exact ih0 _ _ _ _ _
      | exact ih1 _ _ _ _
      | exact ih2 _ _ _ _ _ _
      | exact ih3 _ _ _ _ _ _ _
      | exact ih4 _ _ _ _ _ _ _
      | exact diaphonelaw05_sane.mono _
      | exact diaphoneref05_SameInts.mono _ _ _
      | exact diaphoneref05_With.mono _ _ _
      | exact echo_Delays.mono _ _
      | exact echo_Heard.mono _ _ _
      | exact echo_With.mono _ _ _
      | exact LeO.none _
      | refine LeO.ite ?_ ?_
      | refine LeO.bind ?_ (fun _ => ?_)
    · intro y0 y1 y2 y3 y4 y5 y6
      unfold diaphonelaw05_EchoWith.j4
      repeat' first
      | (with_reducible exact ih0 _ _ _ _ _)
      | (with_reducible exact ih1 _ _ _ _)
      | (with_reducible exact ih2 _ _ _ _ _ _)
      | (with_reducible exact ih3 _ _ _ _ _ _ _)
      | (with_reducible exact ih4 _ _ _ _ _ _ _)
      | (with_reducible exact diaphonelaw05_sane.mono _)
      | (with_reducible exact diaphoneref05_SameInts.mono _ _ _)
      | (with_reducible exact diaphoneref05_With.mono _ _ _)
      | (with_reducible exact echo_Delays.mono _ _)
      | (with_reducible exact echo_Heard.mono _ _ _)
      | (with_reducible exact echo_With.mono _ _ _)
      | (with_reducible exact LeO.refl _)
      | (with_reducible exact LeO.none _)
      | (with_reducible refine LeO.ite ?_ ?_)
      | (with_reducible refine LeO.bind ?_ (fun _ => ?_))
      | exact ih0 _ _ _ _ _
      | exact ih1 _ _ _ _
      | exact ih2 _ _ _ _ _ _
      | exact ih3 _ _ _ _ _ _ _
      | exact ih4 _ _ _ _ _ _ _
      | exact diaphonelaw05_sane.mono _
      | exact diaphoneref05_SameInts.mono _ _ _
      | exact diaphoneref05_With.mono _ _ _
      | exact echo_Delays.mono _ _
      | exact echo_Heard.mono _ _ _
      | exact echo_With.mono _ _ _
      | exact LeO.none _
      | refine LeO.ite ?_ ?_
      | refine LeO.bind ?_ (fun _ => ?_)
theorem diaphonelaw05_EchoWith.mono : ∀ a0 a1 k, LeO (diaphonelaw05_EchoWith.f k a0 a1) (diaphonelaw05_EchoWith.f (k + 1) a0 a1) := by
  intro a0 a1 k
  obtain ⟨ih0, ih1, ih2, ih3, ih4⟩ := diaphonelaw05_EchoWith.mono_l k
  unfold diaphonelaw05_EchoWith.f
  repeat' first
      | (with_reducible exact ih0 _ _ _ _ _)
      | (with_reducible exact ih1 _ _ _ _)
      | (with_reducible exact ih2 _ _ _ _ _ _)
      | (with_reducible exact ih3 _ _ _ _ _ _ _)
      | (with_reducible exact ih4 _ _ _ _ _ _ _)
      | (with_reducible exact diaphonelaw05_sane.mono _)
      | (with_reducible exact diaphoneref05_SameInts.mono _ _ _)
      | (with_reducible exact diaphoneref05_With.mono _ _ _)
      | (with_reducible exact echo_Delays.mono _ _)
      | (with_reducible exact echo_Heard.mono _ _ _)
      | (with_reducible exact echo_With.mono _ _ _)
      | (with_reducible exact LeO.refl _)
      | (with_reducible exact LeO.none _)
      | (with_reducible refine LeO.ite ?_ ?_)
      | (with_reducible refine LeO.bind ?_ (fun _ => ?_))
      | exact ih0 _ _ _ _ _
      | exact ih1 _ _ _ _
      | exact ih2 _ _ _ _ _ _
      | exact ih3 _ _ _ _ _ _ _
      | exact ih4 _ _ _ _ _ _ _
      | exact diaphonelaw05_sane.mono _
      | exact diaphoneref05_SameInts.mono _ _ _
      | exact diaphoneref05_With.mono _ _ _
      | exact echo_Delays.mono _ _
      | exact echo_Heard.mono _ _ _
      | exact echo_With.mono _ _ _
      | exact LeO.none _
      | refine LeO.ite ?_ ?_
      | refine LeO.bind ?_ (fun _ => ?_)
set_option maxHeartbeats 8000000 in
set_option maxRecDepth 100000 in
theorem diaphonelaw05_EchoWith.calls (k : Nat) (A0 : Option Addr) (c0 : Nat) (l0 : List Int) (a1 : Int) (r : Bool) (hrt : r = true) (w : World) (hr0 : Kd.C (Kd.int .i64) w A0 l0.length l0) (hc0 : l0.length ≤ c0) (h : diaphonelaw05_EchoWith.f k l0 a1 = some r) :
    Calls Try.prog 12 #[.slice A0 l0.length c0, .int .i64 a1] w fun e w' => e = .returned (.bool r) ∧ Below w.heap.size w w' := by
  have HRT := Aside0.mk hrt
  clear hrt
  have HR0 := Aside0.mk hr0
  have HC0 := Aside0.mk hc0
  clear hr0 hc0
  have HB := Aside0.mk (Below.refl w.heap.size w)
  have H : ((long1.f l0).bind fun t101 => (if t101 = true then ((diaphonelaw05_sane.f k).bind fun t102 => (some t102)) else ((echo_With.f k l0 a1).bind fun bt103 => ((diaphoneref05_With.f k l0 a1).bind fun bt107 => ((diaphoneref05_SameInts.f k bt103.1 bt107.1).bind fun t111 => (if t111 = true then (diaphonelaw05_EchoWith.j0 k l0 a1 bt103.1 bt103.2 (bt103.2 != bt107.2)) else (diaphonelaw05_EchoWith.j0 k l0 a1 bt103.1 bt103.2 true))))))) = some r := h
  clear h
  replace H := Option.bind_eq_some_iff.mp H
  obtain ⟨t101, A30, H⟩ := H
  replace H : (if t101 = true then ((diaphonelaw05_sane.f k).bind fun t102 => (some t102)) else ((echo_With.f k l0 a1).bind fun bt103 => ((diaphoneref05_With.f k l0 a1).bind fun bt107 => ((diaphoneref05_SameInts.f k bt103.1 bt107.1).bind fun t111 => (if t111 = true then (diaphonelaw05_EchoWith.j0 k l0 a1 bt103.1 bt103.2 (bt103.2 != bt107.2)) else (diaphonelaw05_EchoWith.j0 k l0 a1 bt103.1 bt103.2 true)))))) = some r := H
  have A3 := Aside0.mk A30
  clear A30
  by_cases c4 : t101 = true
  · subst c4
    have H1 : ((diaphonelaw05_sane.f k).bind fun t102 => (some t102)) = some r := by rw [if_pos rfl] at H; exact H
    clear H
    have H := H1
    clear H1
    replace H := Option.bind_eq_some_iff.mp H
    obtain ⟨t102, A50, H⟩ := H
    replace H : (some t102) = some r := H
    have A5 := Aside0.mk A50
    clear A50
    obtain rfl := Option.some.inj H
    go_enter Try.func12, Try.ntmps12
    go_wp2_with (first | (go_at_call 15; (with_reducible refine (long1.calls _ _ l0 true _ ?side1 ?side2 A3.out).mono ?_); (case side1 => repeat (first | exact HR0.out | (with_reducible refine Kd.C_alloc ?_ _) | (with_reducible refine Kd.C_drewN ?_ _) | (with_reducible refine Kd.C_drew ?_))); (case side2 => exact HC0.out); rintro e w6 ⟨rfl, hb⟩; have n0_ := Aside0.mk (below_step (by repeat (first | (with_reducible first | exact HB.out | apply below_alloc | apply pw_below_drewN | apply below_drew1) | exact HB.out)) hb); clear HB; have HB := n0_; clear n0_; (try clear hb); (try clear hb2); (try clear hk); (try clear hi)) | (go_at_call 16; (with_reducible refine (diaphonelaw05_sane.calls k  t102 _ A5.out).mono ?_); rintro e w7 ⟨rfl, hb⟩; have n0_ := Aside0.mk (below_step (by repeat (first | (with_reducible first | exact HB.out | apply below_alloc | apply pw_below_drewN | apply below_drew1) | exact HB.out)) hb); clear HB; have HB := n0_; clear n0_; (try clear hb); (try clear hb2); (try clear hk); (try clear hi)))
    repeat (go_quiet (first | (go_at_call 15; (with_reducible refine (long1.calls _ _ l0 true _ ?side1 ?side2 A3.out).mono ?_); (case side1 => repeat (first | exact HR0.out | (with_reducible refine Kd.C_alloc ?_ _) | (with_reducible refine Kd.C_drewN ?_ _) | (with_reducible refine Kd.C_drew ?_))); (case side2 => exact HC0.out); rintro e w6 ⟨rfl, hb⟩; have n0_ := Aside0.mk (below_step (by repeat (first | (with_reducible first | exact HB.out | apply below_alloc | apply pw_below_drewN | apply below_drew1) | exact HB.out)) hb); clear HB; have HB := n0_; clear n0_; (try clear hb); (try clear hb2); (try clear hk); (try clear hi)) | (go_at_call 16; (with_reducible refine (diaphonelaw05_sane.calls k  t102 _ A5.out).mono ?_); rintro e w7 ⟨rfl, hb⟩; have n0_ := Aside0.mk (below_step (by repeat (first | (with_reducible first | exact HB.out | apply below_alloc | apply pw_below_drewN | apply below_drew1) | exact HB.out)) hb); clear HB; have HB := n0_; clear n0_; (try clear hb); (try clear hb2); (try clear hk); (try clear hi))); try go_wp2_with (first | (go_at_call 15; (with_reducible refine (long1.calls _ _ l0 true _ ?side1 ?side2 A3.out).mono ?_); (case side1 => repeat (first | exact HR0.out | (with_reducible refine Kd.C_alloc ?_ _) | (with_reducible refine Kd.C_drewN ?_ _) | (with_reducible refine Kd.C_drew ?_))); (case side2 => exact HC0.out); rintro e w6 ⟨rfl, hb⟩; have n0_ := Aside0.mk (below_step (by repeat (first | (with_reducible first | exact HB.out | apply below_alloc | apply pw_below_drewN | apply below_drew1) | exact HB.out)) hb); clear HB; have HB := n0_; clear n0_; (try clear hb); (try clear hb2); (try clear hk); (try clear hi)) | (go_at_call 16; (with_reducible refine (diaphonelaw05_sane.calls k  t102 _ A5.out).mono ?_); rintro e w7 ⟨rfl, hb⟩; have n0_ := Aside0.mk (below_step (by repeat (first | (with_reducible first | exact HB.out | apply below_alloc | apply pw_below_drewN | apply below_drew1) | exact HB.out)) hb); clear HB; have HB := n0_; clear n0_; (try clear hb); (try clear hb2); (try clear hk); (try clear hi))))
    go_ret
    exact ⟨by first | rfl | (simp [errW_none, errW_some] <;> rfl) | (simp [*, errW_none, errW_some] <;> rfl), by repeat (first | (with_reducible first | exact HB.out | apply below_alloc | apply pw_below_drewN | apply below_drew1) | exact HB.out)⟩
  · replace c4 := Bool.eq_false_iff.mpr c4
    subst c4
    have H1 : ((echo_With.f k l0 a1).bind fun bt103 => ((diaphoneref05_With.f k l0 a1).bind fun bt107 => ((diaphoneref05_SameInts.f k bt103.1 bt107.1).bind fun t111 => (if t111 = true then (diaphonelaw05_EchoWith.j0 k l0 a1 bt103.1 bt103.2 (bt103.2 != bt107.2)) else (diaphonelaw05_EchoWith.j0 k l0 a1 bt103.1 bt103.2 true))))) = some r := by rw [if_neg (show ¬ (false = true) by decide)] at H; exact H
    clear H
    have H := H1
    clear H1
    replace H := Option.bind_eq_some_iff.mp H
    obtain ⟨⟨t103, t104⟩, A80, H⟩ := H
    replace H : ((diaphoneref05_With.f k l0 a1).bind fun bt107 => ((diaphoneref05_SameInts.f k t103 bt107.1).bind fun t111 => (if t111 = true then (diaphonelaw05_EchoWith.j0 k l0 a1 t103 t104 (t104 != bt107.2)) else (diaphonelaw05_EchoWith.j0 k l0 a1 t103 t104 true)))) = some r := H
    have A8 := Aside0.mk A80
    clear A80
    replace H := Option.bind_eq_some_iff.mp H
    obtain ⟨⟨t107, t108⟩, A90, H⟩ := H
    replace H : ((diaphoneref05_SameInts.f k t103 t107).bind fun t111 => (if t111 = true then (diaphonelaw05_EchoWith.j0 k l0 a1 t103 t104 (t104 != t108)) else (diaphonelaw05_EchoWith.j0 k l0 a1 t103 t104 true))) = some r := H
    have A9 := Aside0.mk A90
    clear A90
    have HC10 := Aside0.mk H
    clear H
    go_enter Try.func12, Try.ntmps12
    go_upto_region 5 with (first | (go_at_call 15; (with_reducible refine (long1.calls _ _ l0 false _ ?side1 ?side2 A3.out).mono ?_); (case side1 => repeat (first | exact HR0.out | (with_reducible refine Kd.C_alloc ?_ _) | (with_reducible refine Kd.C_drewN ?_ _) | (with_reducible refine Kd.C_drew ?_))); (case side2 => exact HC0.out); rintro e w11 ⟨rfl, hb⟩; have n0_ := Aside0.mk (below_step (by repeat (first | (with_reducible first | exact HB.out | apply below_alloc | apply pw_below_drewN | apply below_drew1) | exact HB.out)) hb); clear HB; have HB := n0_; clear n0_; (try clear hb); (try clear hb2); (try clear hk); (try clear hi)) | (go_at_call 43; (with_reducible refine (echo_With.calls k _ _ l0 a1 t103 t104 _ ?side1 ?side2 A8.out).mono ?_); (case side1 => repeat (first | exact (Kd.C_below HR0.out HB.out) | (with_reducible refine Kd.C_alloc ?_ _) | (with_reducible refine Kd.C_drewN ?_ _) | (with_reducible refine Kd.C_drew ?_))); (case side2 => exact HC0.out); rintro e w12 ⟨v105, rfl, ho0, hb⟩; have n0_ := Aside0.mk (Kd.R_lower ho0 (below_size (by repeat (first | (with_reducible first | exact HB.out | apply below_alloc | apply pw_below_drewN | apply below_drew1) | exact HB.out)))); have n1_ := Aside0.mk (below_step (by repeat (first | (with_reducible first | exact HB.out | apply below_alloc | apply pw_below_drewN | apply below_drew1) | exact HB.out)) hb); clear HB; have HO106 := n0_; have HB := n1_; clear n0_ n1_; (try clear hb); (try clear hb2); (try clear hk); (try clear hi); (try clear ho0)) | (go_at_call 44; (with_reducible refine (diaphoneref05_With.calls k _ _ l0 a1 t107 t108 _ ?side1 ?side2 A9.out).mono ?_); (case side1 => repeat (first | exact (Kd.C_below HR0.out HB.out) | (with_reducible refine Kd.C_alloc ?_ _) | (with_reducible refine Kd.C_drewN ?_ _) | (with_reducible refine Kd.C_drew ?_))); (case side2 => exact HC0.out); rintro e w13 ⟨v109, rfl, ho0, hb⟩; have n0_ := Aside0.mk (Kd.R_elder' (by (with_reducible repeat (first | apply Kd.R_alloc | apply Kd.R_drewN | apply Kd.R_drew)); exact HO106.out) (Kd.R_base ho0) hb); have n1_ := Aside0.mk (Kd.R_lower (Kd.R_new' ho0 (Kd.R_lt (by (with_reducible repeat (first | apply Kd.R_alloc | apply Kd.R_drewN | apply Kd.R_drew)); exact HO106.out))) (below_size (by repeat (first | (with_reducible first | exact HB.out | apply below_alloc | apply pw_below_drewN | apply below_drew1) | exact HB.out)))); have n2_ := Aside0.mk (below_step (by repeat (first | (with_reducible first | exact HB.out | apply below_alloc | apply pw_below_drewN | apply below_drew1) | exact HB.out)) hb); clear HO106; clear HB; have HO106 := n0_; have HO110 := n1_; have HB := n2_; clear n0_ n1_ n2_; (try clear hb); (try clear hb2); (try clear hk); (try clear hi); (try clear ho0)))
    repeat (go_quiet (first | (go_at_call 15; (with_reducible refine (long1.calls _ _ l0 false _ ?side1 ?side2 A3.out).mono ?_); (case side1 => repeat (first | exact HR0.out | (with_reducible refine Kd.C_alloc ?_ _) | (with_reducible refine Kd.C_drewN ?_ _) | (with_reducible refine Kd.C_drew ?_))); (case side2 => exact HC0.out); rintro e w11 ⟨rfl, hb⟩; have n0_ := Aside0.mk (below_step (by repeat (first | (with_reducible first | exact HB.out | apply below_alloc | apply pw_below_drewN | apply below_drew1) | exact HB.out)) hb); clear HB; have HB := n0_; clear n0_; (try clear hb); (try clear hb2); (try clear hk); (try clear hi)) | (go_at_call 43; (with_reducible refine (echo_With.calls k _ _ l0 a1 t103 t104 _ ?side1 ?side2 A8.out).mono ?_); (case side1 => repeat (first | exact (Kd.C_below HR0.out HB.out) | (with_reducible refine Kd.C_alloc ?_ _) | (with_reducible refine Kd.C_drewN ?_ _) | (with_reducible refine Kd.C_drew ?_))); (case side2 => exact HC0.out); rintro e w12 ⟨v105, rfl, ho0, hb⟩; have n0_ := Aside0.mk (Kd.R_lower ho0 (below_size (by repeat (first | (with_reducible first | exact HB.out | apply below_alloc | apply pw_below_drewN | apply below_drew1) | exact HB.out)))); have n1_ := Aside0.mk (below_step (by repeat (first | (with_reducible first | exact HB.out | apply below_alloc | apply pw_below_drewN | apply below_drew1) | exact HB.out)) hb); clear HB; have HO106 := n0_; have HB := n1_; clear n0_ n1_; (try clear hb); (try clear hb2); (try clear hk); (try clear hi); (try clear ho0)) | (go_at_call 44; (with_reducible refine (diaphoneref05_With.calls k _ _ l0 a1 t107 t108 _ ?side1 ?side2 A9.out).mono ?_); (case side1 => repeat (first | exact (Kd.C_below HR0.out HB.out) | (with_reducible refine Kd.C_alloc ?_ _) | (with_reducible refine Kd.C_drewN ?_ _) | (with_reducible refine Kd.C_drew ?_))); (case side2 => exact HC0.out); rintro e w13 ⟨v109, rfl, ho0, hb⟩; have n0_ := Aside0.mk (Kd.R_elder' (by (with_reducible repeat (first | apply Kd.R_alloc | apply Kd.R_drewN | apply Kd.R_drew)); exact HO106.out) (Kd.R_base ho0) hb); have n1_ := Aside0.mk (Kd.R_lower (Kd.R_new' ho0 (Kd.R_lt (by (with_reducible repeat (first | apply Kd.R_alloc | apply Kd.R_drewN | apply Kd.R_drew)); exact HO106.out))) (below_size (by repeat (first | (with_reducible first | exact HB.out | apply below_alloc | apply pw_below_drewN | apply below_drew1) | exact HB.out)))); have n2_ := Aside0.mk (below_step (by repeat (first | (with_reducible first | exact HB.out | apply below_alloc | apply pw_below_drewN | apply below_drew1) | exact HB.out)) hb); clear HO106; clear HB; have HO106 := n0_; have HO110 := n1_; have HB := n2_; clear n0_ n1_ n2_; (try clear hb); (try clear hb2); (try clear hk); (try clear hi); (try clear ho0))); go_upto_region 5 with (first | (go_at_call 15; (with_reducible refine (long1.calls _ _ l0 false _ ?side1 ?side2 A3.out).mono ?_); (case side1 => repeat (first | exact HR0.out | (with_reducible refine Kd.C_alloc ?_ _) | (with_reducible refine Kd.C_drewN ?_ _) | (with_reducible refine Kd.C_drew ?_))); (case side2 => exact HC0.out); rintro e w11 ⟨rfl, hb⟩; have n0_ := Aside0.mk (below_step (by repeat (first | (with_reducible first | exact HB.out | apply below_alloc | apply pw_below_drewN | apply below_drew1) | exact HB.out)) hb); clear HB; have HB := n0_; clear n0_; (try clear hb); (try clear hb2); (try clear hk); (try clear hi)) | (go_at_call 43; (with_reducible refine (echo_With.calls k _ _ l0 a1 t103 t104 _ ?side1 ?side2 A8.out).mono ?_); (case side1 => repeat (first | exact (Kd.C_below HR0.out HB.out) | (with_reducible refine Kd.C_alloc ?_ _) | (with_reducible refine Kd.C_drewN ?_ _) | (with_reducible refine Kd.C_drew ?_))); (case side2 => exact HC0.out); rintro e w12 ⟨v105, rfl, ho0, hb⟩; have n0_ := Aside0.mk (Kd.R_lower ho0 (below_size (by repeat (first | (with_reducible first | exact HB.out | apply below_alloc | apply pw_below_drewN | apply below_drew1) | exact HB.out)))); have n1_ := Aside0.mk (below_step (by repeat (first | (with_reducible first | exact HB.out | apply below_alloc | apply pw_below_drewN | apply below_drew1) | exact HB.out)) hb); clear HB; have HO106 := n0_; have HB := n1_; clear n0_ n1_; (try clear hb); (try clear hb2); (try clear hk); (try clear hi); (try clear ho0)) | (go_at_call 44; (with_reducible refine (diaphoneref05_With.calls k _ _ l0 a1 t107 t108 _ ?side1 ?side2 A9.out).mono ?_); (case side1 => repeat (first | exact (Kd.C_below HR0.out HB.out) | (with_reducible refine Kd.C_alloc ?_ _) | (with_reducible refine Kd.C_drewN ?_ _) | (with_reducible refine Kd.C_drew ?_))); (case side2 => exact HC0.out); rintro e w13 ⟨v109, rfl, ho0, hb⟩; have n0_ := Aside0.mk (Kd.R_elder' (by (with_reducible repeat (first | apply Kd.R_alloc | apply Kd.R_drewN | apply Kd.R_drew)); exact HO106.out) (Kd.R_base ho0) hb); have n1_ := Aside0.mk (Kd.R_lower (Kd.R_new' ho0 (Kd.R_lt (by (with_reducible repeat (first | apply Kd.R_alloc | apply Kd.R_drewN | apply Kd.R_drew)); exact HO106.out))) (below_size (by repeat (first | (with_reducible first | exact HB.out | apply below_alloc | apply pw_below_drewN | apply below_drew1) | exact HB.out)))); have n2_ := Aside0.mk (below_step (by repeat (first | (with_reducible first | exact HB.out | apply below_alloc | apply pw_below_drewN | apply below_drew1) | exact HB.out)) hb); clear HO106; clear HB; have HO106 := n0_; have HO110 := n1_; have HB := n2_; clear n0_ n1_ n2_; (try clear hb); (try clear hb2); (try clear hk); (try clear hi); (try clear ho0))))
    (try simp only [Act.put, List.setIfInBounds_toArray, List.set_cons_zero, List.set_cons_succ])
    go_cut [42] (fun v42 wc => ∃ (kq : Nat) (x42_9 : Bool), v42 = .bool x42_9 ∧ Aside0 (diaphonelaw05_EchoWith.j0 kq l0 a1 t103 t104 x42_9 = some r) ∧ Aside0 (kq ≤ k) ∧ Aside0 (Kd.R (Kd.int .i64) 3 wc w.heap.size (fun _ => True) v105 t103) ∧ Aside0 (Below w.heap.size w wc))
    case first =>
      have H := HC10.out
      clear HC10
      replace H := Option.bind_eq_some_iff.mp H
      obtain ⟨t111, A140, H⟩ := H
      replace H : (if t111 = true then (diaphonelaw05_EchoWith.j0 k l0 a1 t103 t104 (t104 != t108)) else (diaphonelaw05_EchoWith.j0 k l0 a1 t103 t104 true)) = some r := H
      have A14 := Aside0.mk A140
      clear A140
      by_cases c15 : t111 = true
      · subst c15
        have H1 : (diaphonelaw05_EchoWith.j0 k l0 a1 t103 t104 (t104 != t108)) = some r := by rw [if_pos rfl] at H; exact H
        clear H
        have H := H1
        clear H1
        have H' := Aside0.mk H
        clear H
        obtain ⟨Ao16, co16, eo16⟩ := Kd.R_slice HO106.out
        subst eo16
        obtain ⟨Ao17, co17, eo17⟩ := Kd.R_slice HO110.out
        subst eo17
        go_wp2_with (first | (go_at_call 23; (with_reducible refine (diaphoneref05_SameInts.calls k _ _ t103 _ _ t107 true _ ?side1 ?side2 ?side3 ?side4 A14.out).mono ?_); (case side1 => repeat (first | exact (Kd.R_reads' HO106.out).2.2 | (with_reducible refine Kd.C_alloc ?_ _) | (with_reducible refine Kd.C_drewN ?_ _) | (with_reducible refine Kd.C_drew ?_))); (case side2 => exact (Kd.R_reads' HO106.out).2.1); (case side3 => repeat (first | exact (Kd.R_reads' HO110.out).2.2 | (with_reducible refine Kd.C_alloc ?_ _) | (with_reducible refine Kd.C_drewN ?_ _) | (with_reducible refine Kd.C_drew ?_))); (case side4 => exact (Kd.R_reads' HO110.out).2.1); rintro e w' ⟨rfl, ⟨nd, rfl⟩⟩; (try first | exact ⟨rfl, _, World.drewN_drewN _ _ _⟩ | exact ⟨rfl, _, Eq.trans (World.drewN_drewN _ _ _) (congrArg (World.drewN _) (Nat.add_assoc _ _ _))⟩)))
        repeat (go_quiet (first | (go_at_call 23; (with_reducible refine (diaphoneref05_SameInts.calls k _ _ t103 _ _ t107 true _ ?side1 ?side2 ?side3 ?side4 A14.out).mono ?_); (case side1 => repeat (first | exact (Kd.R_reads' HO106.out).2.2 | (with_reducible refine Kd.C_alloc ?_ _) | (with_reducible refine Kd.C_drewN ?_ _) | (with_reducible refine Kd.C_drew ?_))); (case side2 => exact (Kd.R_reads' HO106.out).2.1); (case side3 => repeat (first | exact (Kd.R_reads' HO110.out).2.2 | (with_reducible refine Kd.C_alloc ?_ _) | (with_reducible refine Kd.C_drewN ?_ _) | (with_reducible refine Kd.C_drew ?_))); (case side4 => exact (Kd.R_reads' HO110.out).2.1); rintro e w' ⟨rfl, ⟨nd, rfl⟩⟩; (try first | exact ⟨rfl, _, World.drewN_drewN _ _ _⟩ | exact ⟨rfl, _, Eq.trans (World.drewN_drewN _ _ _) (congrArg (World.drewN _) (Nat.add_assoc _ _ _))⟩))); try go_wp2_with (first | (go_at_call 23; (with_reducible refine (diaphoneref05_SameInts.calls k _ _ t103 _ _ t107 true _ ?side1 ?side2 ?side3 ?side4 A14.out).mono ?_); (case side1 => repeat (first | exact (Kd.R_reads' HO106.out).2.2 | (with_reducible refine Kd.C_alloc ?_ _) | (with_reducible refine Kd.C_drewN ?_ _) | (with_reducible refine Kd.C_drew ?_))); (case side2 => exact (Kd.R_reads' HO106.out).2.1); (case side3 => repeat (first | exact (Kd.R_reads' HO110.out).2.2 | (with_reducible refine Kd.C_alloc ?_ _) | (with_reducible refine Kd.C_drewN ?_ _) | (with_reducible refine Kd.C_drew ?_))); (case side4 => exact (Kd.R_reads' HO110.out).2.1); rintro e w' ⟨rfl, ⟨nd, rfl⟩⟩; (try first | exact ⟨rfl, _, World.drewN_drewN _ _ _⟩ | exact ⟨rfl, _, Eq.trans (World.drewN_drewN _ _ _) (congrArg (World.drewN _) (Nat.add_assoc _ _ _))⟩))))
        go_meet
        case rel => exact ⟨_, ((t104 != t108)), (by first | rfl | (simp; done) | (simp [*]; done)), H', ⟨by first | omega | exact Nat.le_refl _⟩, ⟨by (with_reducible repeat (first | apply Kd.R_alloc | apply Kd.R_drewN | apply Kd.R_drew)); exact Kd.R_mono HO106.out (fun _ hk => trivial)⟩, ⟨by repeat (first | (with_reducible first | exact HB.out | apply below_alloc | apply pw_below_drewN | apply below_drew1) | exact HB.out)⟩⟩
      · replace c15 := Bool.eq_false_iff.mpr c15
        subst c15
        have H1 : (diaphonelaw05_EchoWith.j0 k l0 a1 t103 t104 true) = some r := by rw [if_neg (show ¬ (false = true) by decide)] at H; exact H
        clear H
        have H := H1
        clear H1
        have H' := Aside0.mk H
        clear H
        obtain ⟨Ao18, co18, eo18⟩ := Kd.R_slice HO106.out
        subst eo18
        obtain ⟨Ao19, co19, eo19⟩ := Kd.R_slice HO110.out
        subst eo19
        go_wp2_with (first | (go_at_call 23; (with_reducible refine (diaphoneref05_SameInts.calls k _ _ t103 _ _ t107 false _ ?side1 ?side2 ?side3 ?side4 A14.out).mono ?_); (case side1 => repeat (first | exact (Kd.R_reads' HO106.out).2.2 | (with_reducible refine Kd.C_alloc ?_ _) | (with_reducible refine Kd.C_drewN ?_ _) | (with_reducible refine Kd.C_drew ?_))); (case side2 => exact (Kd.R_reads' HO106.out).2.1); (case side3 => repeat (first | exact (Kd.R_reads' HO110.out).2.2 | (with_reducible refine Kd.C_alloc ?_ _) | (with_reducible refine Kd.C_drewN ?_ _) | (with_reducible refine Kd.C_drew ?_))); (case side4 => exact (Kd.R_reads' HO110.out).2.1); rintro e w' ⟨rfl, ⟨nd, rfl⟩⟩; (try first | exact ⟨rfl, _, World.drewN_drewN _ _ _⟩ | exact ⟨rfl, _, Eq.trans (World.drewN_drewN _ _ _) (congrArg (World.drewN _) (Nat.add_assoc _ _ _))⟩)))
        repeat (go_quiet (first | (go_at_call 23; (with_reducible refine (diaphoneref05_SameInts.calls k _ _ t103 _ _ t107 false _ ?side1 ?side2 ?side3 ?side4 A14.out).mono ?_); (case side1 => repeat (first | exact (Kd.R_reads' HO106.out).2.2 | (with_reducible refine Kd.C_alloc ?_ _) | (with_reducible refine Kd.C_drewN ?_ _) | (with_reducible refine Kd.C_drew ?_))); (case side2 => exact (Kd.R_reads' HO106.out).2.1); (case side3 => repeat (first | exact (Kd.R_reads' HO110.out).2.2 | (with_reducible refine Kd.C_alloc ?_ _) | (with_reducible refine Kd.C_drewN ?_ _) | (with_reducible refine Kd.C_drew ?_))); (case side4 => exact (Kd.R_reads' HO110.out).2.1); rintro e w' ⟨rfl, ⟨nd, rfl⟩⟩; (try first | exact ⟨rfl, _, World.drewN_drewN _ _ _⟩ | exact ⟨rfl, _, Eq.trans (World.drewN_drewN _ _ _) (congrArg (World.drewN _) (Nat.add_assoc _ _ _))⟩))); try go_wp2_with (first | (go_at_call 23; (with_reducible refine (diaphoneref05_SameInts.calls k _ _ t103 _ _ t107 false _ ?side1 ?side2 ?side3 ?side4 A14.out).mono ?_); (case side1 => repeat (first | exact (Kd.R_reads' HO106.out).2.2 | (with_reducible refine Kd.C_alloc ?_ _) | (with_reducible refine Kd.C_drewN ?_ _) | (with_reducible refine Kd.C_drew ?_))); (case side2 => exact (Kd.R_reads' HO106.out).2.1); (case side3 => repeat (first | exact (Kd.R_reads' HO110.out).2.2 | (with_reducible refine Kd.C_alloc ?_ _) | (with_reducible refine Kd.C_drewN ?_ _) | (with_reducible refine Kd.C_drew ?_))); (case side4 => exact (Kd.R_reads' HO110.out).2.1); rintro e w' ⟨rfl, ⟨nd, rfl⟩⟩; (try first | exact ⟨rfl, _, World.drewN_drewN _ _ _⟩ | exact ⟨rfl, _, Eq.trans (World.drewN_drewN _ _ _) (congrArg (World.drewN _) (Nat.add_assoc _ _ _))⟩))))
        go_meet
        case rel => exact ⟨_, (true), (by first | rfl | (simp; done) | (simp [*]; done)), H', ⟨by first | omega | exact Nat.le_refl _⟩, ⟨by (with_reducible repeat (first | apply Kd.R_alloc | apply Kd.R_drewN | apply Kd.R_drew)); exact Kd.R_mono HO106.out (fun _ hk => trivial)⟩, ⟨by repeat (first | (with_reducible first | exact HB.out | apply below_alloc | apply pw_below_drewN | apply below_drew1) | exact HB.out)⟩⟩
    case rest =>
      clear HC10
      try clear c1
      try clear p2
      try clear c4
      try clear c12
      try clear c15
      obtain ⟨kq, x42_9, rfl, HA, HJ9, HO_5, HB⟩ := hcut
      cases kq with
      | zero => exact absurd HA.out (by simp [diaphonelaw05_EchoWith.j0])
      | succ kj9 =>
        have H := HA.out
        clear HA
        simp only [diaphonelaw05_EchoWith.j0] at H
        by_cases c20 : x42_9 = true
        · subst c20
          have H1 : (some false) = some r := by rw [if_pos rfl] at H; exact H
          clear H
          have H := H1
          clear H1
          exact absurd (Option.some.inj H) (by rw [HRT.out]; decide)
        · replace c20 := Bool.eq_false_iff.mpr c20
          subst c20
          have H1 : (if t104 = 0 then ((echo_Delays.f kj9 l0).bind fun bt113 => ((echo_Delays.f kj9 t103).bind fun bt117 => ((echo_Heard.f kj9 l0 a1).bind fun bt121 => (if bt113.2 = 0 then (if bt117.2 = 0 then (if bt121.2 = 0 then (if (bt117.1.length : Int) = (wrap64 ((bt113.1.length : Int) + (l0.length : Int))) then (diaphonelaw05_EchoWith.j1 kj9 bt113.1 bt117.1 bt121.1 ((bt121.1.length : Int) != (l0.length : Int))) else (diaphonelaw05_EchoWith.j1 kj9 bt113.1 bt117.1 bt121.1 true)) else (diaphonelaw05_EchoWith.j1 kj9 bt113.1 bt117.1 bt121.1 true)) else (diaphonelaw05_EchoWith.j1 kj9 bt113.1 bt117.1 bt121.1 true)) else (diaphonelaw05_EchoWith.j1 kj9 bt113.1 bt117.1 bt121.1 true))))) else ((diaphonelaw05_sane.f kj9).bind fun t112 => (some t112))) = some r := by rw [if_neg (show ¬ (false = true) by decide)] at H; exact H
          clear H
          have H := H1
          clear H1
          by_cases c21 : t104 = 0
          · rw [if_pos c21] at H
            have c21b0 : (t104 == 0) = true := beq_iff_eq.mpr c21
            have c21b1 : (t104 != 0) = false := bne_eq_false_iff_eq.mpr c21
            clear c21
            replace H := Option.bind_eq_some_iff.mp H
            obtain ⟨⟨t113, t114⟩, A220, H⟩ := H
            replace H : ((echo_Delays.f kj9 t103).bind fun bt117 => ((echo_Heard.f kj9 l0 a1).bind fun bt121 => (if t114 = 0 then (if bt117.2 = 0 then (if bt121.2 = 0 then (if (bt117.1.length : Int) = (wrap64 ((t113.length : Int) + (l0.length : Int))) then (diaphonelaw05_EchoWith.j1 kj9 t113 bt117.1 bt121.1 ((bt121.1.length : Int) != (l0.length : Int))) else (diaphonelaw05_EchoWith.j1 kj9 t113 bt117.1 bt121.1 true)) else (diaphonelaw05_EchoWith.j1 kj9 t113 bt117.1 bt121.1 true)) else (diaphonelaw05_EchoWith.j1 kj9 t113 bt117.1 bt121.1 true)) else (diaphonelaw05_EchoWith.j1 kj9 t113 bt117.1 bt121.1 true)))) = some r := H
            have A22 := Aside0.mk A220
            clear A220
            replace H := Option.bind_eq_some_iff.mp H
            obtain ⟨⟨t117, t118⟩, A230, H⟩ := H
            replace H : ((echo_Heard.f kj9 l0 a1).bind fun bt121 => (if t114 = 0 then (if t118 = 0 then (if bt121.2 = 0 then (if (t117.length : Int) = (wrap64 ((t113.length : Int) + (l0.length : Int))) then (diaphonelaw05_EchoWith.j1 kj9 t113 t117 bt121.1 ((bt121.1.length : Int) != (l0.length : Int))) else (diaphonelaw05_EchoWith.j1 kj9 t113 t117 bt121.1 true)) else (diaphonelaw05_EchoWith.j1 kj9 t113 t117 bt121.1 true)) else (diaphonelaw05_EchoWith.j1 kj9 t113 t117 bt121.1 true)) else (diaphonelaw05_EchoWith.j1 kj9 t113 t117 bt121.1 true))) = some r := H
            have A23 := Aside0.mk A230
            clear A230
            replace H := Option.bind_eq_some_iff.mp H
            obtain ⟨⟨t121, t122⟩, A240, H⟩ := H
            replace H : (if t114 = 0 then (if t118 = 0 then (if t122 = 0 then (if (t117.length : Int) = (wrap64 ((t113.length : Int) + (l0.length : Int))) then (diaphonelaw05_EchoWith.j1 kj9 t113 t117 t121 ((t121.length : Int) != (l0.length : Int))) else (diaphonelaw05_EchoWith.j1 kj9 t113 t117 t121 true)) else (diaphonelaw05_EchoWith.j1 kj9 t113 t117 t121 true)) else (diaphonelaw05_EchoWith.j1 kj9 t113 t117 t121 true)) else (diaphonelaw05_EchoWith.j1 kj9 t113 t117 t121 true)) = some r := H
            have A24 := Aside0.mk A240
            clear A240
            have HC25 := Aside0.mk H
            clear H
            go_upto_region 12 with (first | (go_at_call 17; (with_reducible refine (echo_Delays.calls kj9 _ _ l0 t113 t114 _ ?side1 ?side2 A22.out).mono ?_); (case side1 => repeat (first | exact (Kd.C_below HR0.out HB.out) | (with_reducible refine Kd.C_alloc ?_ _) | (with_reducible refine Kd.C_drewN ?_ _) | (with_reducible refine Kd.C_drew ?_))); (case side2 => exact HC0.out); rintro e w26 ⟨v115, rfl, ho0, hb⟩; have n0_ := Aside0.mk (Kd.R_elder' (by (with_reducible repeat (first | apply Kd.R_alloc | apply Kd.R_drewN | apply Kd.R_drew)); exact HO_5.out) (Kd.R_base ho0) hb); have n1_ := Aside0.mk (Kd.R_lower (Kd.R_new' ho0 (Kd.R_lt (by (with_reducible repeat (first | apply Kd.R_alloc | apply Kd.R_drewN | apply Kd.R_drew)); exact HO_5.out))) (below_size (by repeat (first | (with_reducible first | exact HB.out | apply below_alloc | apply pw_below_drewN | apply below_drew1) | exact HB.out)))); have n2_ := Aside0.mk (below_step (by repeat (first | (with_reducible first | exact HB.out | apply below_alloc | apply pw_below_drewN | apply below_drew1) | exact HB.out)) hb); clear HO_5; clear HB; have HO_5 := n0_; have HO116 := n1_; have HB := n2_; clear n0_ n1_ n2_; (try clear hb); (try clear hb2); (try clear hk); (try clear hi); (try clear ho0); obtain ⟨Ao27, co27, eo27⟩ := Kd.R_slice HO_5.out; subst eo27) | (go_at_call 17; (with_reducible refine (echo_Delays.calls kj9 _ _ t103 t117 t118 _ ?side1 ?side2 A23.out).mono ?_); (case side1 => repeat (first | exact (Kd.R_reads' HO_5.out).2.2 | (with_reducible refine Kd.C_alloc ?_ _) | (with_reducible refine Kd.C_drewN ?_ _) | (with_reducible refine Kd.C_drew ?_))); (case side2 => exact (Kd.R_reads' HO_5.out).2.1); rintro e w28 ⟨v119, rfl, ho0, hb⟩; have n0_ := Aside0.mk (Kd.R_elder' (by (with_reducible repeat (first | apply Kd.R_alloc | apply Kd.R_drewN | apply Kd.R_drew)); exact HO_5.out) (Kd.R_base ho0) hb); have n1_ := Aside0.mk (Kd.R_elder' (by (with_reducible repeat (first | apply Kd.R_alloc | apply Kd.R_drewN | apply Kd.R_drew)); exact HO116.out) (Kd.R_base ho0) hb); have n2_ := Aside0.mk (Kd.R_lower (Kd.R_new' (Kd.R_new' ho0 (Kd.R_lt (by (with_reducible repeat (first | apply Kd.R_alloc | apply Kd.R_drewN | apply Kd.R_drew)); exact HO_5.out))) (Kd.R_lt (by (with_reducible repeat (first | apply Kd.R_alloc | apply Kd.R_drewN | apply Kd.R_drew)); exact HO116.out))) (below_size (by repeat (first | (with_reducible first | exact HB.out | apply below_alloc | apply pw_below_drewN | apply below_drew1) | exact HB.out)))); have n3_ := Aside0.mk (below_step (by repeat (first | (with_reducible first | exact HB.out | apply below_alloc | apply pw_below_drewN | apply below_drew1) | exact HB.out)) hb); clear HO_5; clear HO116; clear HB; have HO_5 := n0_; have HO116 := n1_; have HO120 := n2_; have HB := n3_; clear n0_ n1_ n2_ n3_; (try clear hb); (try clear hb2); (try clear hk); (try clear hi); (try clear ho0)) | (go_at_call 39; (with_reducible refine (echo_Heard.calls kj9 _ _ l0 a1 t121 t122 _ ?side1 ?side2 A24.out).mono ?_); (case side1 => repeat (first | exact (Kd.C_below HR0.out HB.out) | (with_reducible refine Kd.C_alloc ?_ _) | (with_reducible refine Kd.C_drewN ?_ _) | (with_reducible refine Kd.C_drew ?_))); (case side2 => exact HC0.out); rintro e w29 ⟨v123, rfl, ho0, hb⟩; have n0_ := Aside0.mk (Kd.R_elder' (by (with_reducible repeat (first | apply Kd.R_alloc | apply Kd.R_drewN | apply Kd.R_drew)); exact HO_5.out) (Kd.R_base ho0) hb); have n1_ := Aside0.mk (Kd.R_elder' (by (with_reducible repeat (first | apply Kd.R_alloc | apply Kd.R_drewN | apply Kd.R_drew)); exact HO116.out) (Kd.R_base ho0) hb); have n2_ := Aside0.mk (Kd.R_elder' (by (with_reducible repeat (first | apply Kd.R_alloc | apply Kd.R_drewN | apply Kd.R_drew)); exact HO120.out) (Kd.R_base ho0) hb); have n3_ := Aside0.mk (Kd.R_lower (Kd.R_new' (Kd.R_new' (Kd.R_new' ho0 (Kd.R_lt (by (with_reducible repeat (first | apply Kd.R_alloc | apply Kd.R_drewN | apply Kd.R_drew)); exact HO_5.out))) (Kd.R_lt (by (with_reducible repeat (first | apply Kd.R_alloc | apply Kd.R_drewN | apply Kd.R_drew)); exact HO116.out))) (Kd.R_lt (by (with_reducible repeat (first | apply Kd.R_alloc | apply Kd.R_drewN | apply Kd.R_drew)); exact HO120.out))) (below_size (by repeat (first | (with_reducible first | exact HB.out | apply below_alloc | apply pw_below_drewN | apply below_drew1) | exact HB.out)))); have n4_ := Aside0.mk (below_step (by repeat (first | (with_reducible first | exact HB.out | apply below_alloc | apply pw_below_drewN | apply below_drew1) | exact HB.out)) hb); clear HO_5; clear HO116; clear HO120; clear HB; have HO_5 := n0_; have HO116 := n1_; have HO120 := n2_; have HO124 := n3_; have HB := n4_; clear n0_ n1_ n2_ n3_ n4_; (try clear hb); (try clear hb2); (try clear hk); (try clear hi); (try clear ho0)))
            repeat (go_quiet (first | (go_at_call 17; (with_reducible refine (echo_Delays.calls kj9 _ _ l0 t113 t114 _ ?side1 ?side2 A22.out).mono ?_); (case side1 => repeat (first | exact (Kd.C_below HR0.out HB.out) | (with_reducible refine Kd.C_alloc ?_ _) | (with_reducible refine Kd.C_drewN ?_ _) | (with_reducible refine Kd.C_drew ?_))); (case side2 => exact HC0.out); rintro e w26 ⟨v115, rfl, ho0, hb⟩; have n0_ := Aside0.mk (Kd.R_elder' (by (with_reducible repeat (first | apply Kd.R_alloc | apply Kd.R_drewN | apply Kd.R_drew)); exact HO_5.out) (Kd.R_base ho0) hb); have n1_ := Aside0.mk (Kd.R_lower (Kd.R_new' ho0 (Kd.R_lt (by (with_reducible repeat (first | apply Kd.R_alloc | apply Kd.R_drewN | apply Kd.R_drew)); exact HO_5.out))) (below_size (by repeat (first | (with_reducible first | exact HB.out | apply below_alloc | apply pw_below_drewN | apply below_drew1) | exact HB.out)))); have n2_ := Aside0.mk (below_step (by repeat (first | (with_reducible first | exact HB.out | apply below_alloc | apply pw_below_drewN | apply below_drew1) | exact HB.out)) hb); clear HO_5; clear HB; have HO_5 := n0_; have HO116 := n1_; have HB := n2_; clear n0_ n1_ n2_; (try clear hb); (try clear hb2); (try clear hk); (try clear hi); (try clear ho0); obtain ⟨Ao27, co27, eo27⟩ := Kd.R_slice HO_5.out; subst eo27) | (go_at_call 17; (with_reducible refine (echo_Delays.calls kj9 _ _ t103 t117 t118 _ ?side1 ?side2 A23.out).mono ?_); (case side1 => repeat (first | exact (Kd.R_reads' HO_5.out).2.2 | (with_reducible refine Kd.C_alloc ?_ _) | (with_reducible refine Kd.C_drewN ?_ _) | (with_reducible refine Kd.C_drew ?_))); (case side2 => exact (Kd.R_reads' HO_5.out).2.1); rintro e w28 ⟨v119, rfl, ho0, hb⟩; have n0_ := Aside0.mk (Kd.R_elder' (by (with_reducible repeat (first | apply Kd.R_alloc | apply Kd.R_drewN | apply Kd.R_drew)); exact HO_5.out) (Kd.R_base ho0) hb); have n1_ := Aside0.mk (Kd.R_elder' (by (with_reducible repeat (first | apply Kd.R_alloc | apply Kd.R_drewN | apply Kd.R_drew)); exact HO116.out) (Kd.R_base ho0) hb); have n2_ := Aside0.mk (Kd.R_lower (Kd.R_new' (Kd.R_new' ho0 (Kd.R_lt (by (with_reducible repeat (first | apply Kd.R_alloc | apply Kd.R_drewN | apply Kd.R_drew)); exact HO_5.out))) (Kd.R_lt (by (with_reducible repeat (first | apply Kd.R_alloc | apply Kd.R_drewN | apply Kd.R_drew)); exact HO116.out))) (below_size (by repeat (first | (with_reducible first | exact HB.out | apply below_alloc | apply pw_below_drewN | apply below_drew1) | exact HB.out)))); have n3_ := Aside0.mk (below_step (by repeat (first | (with_reducible first | exact HB.out | apply below_alloc | apply pw_below_drewN | apply below_drew1) | exact HB.out)) hb); clear HO_5; clear HO116; clear HB; have HO_5 := n0_; have HO116 := n1_; have HO120 := n2_; have HB := n3_; clear n0_ n1_ n2_ n3_; (try clear hb); (try clear hb2); (try clear hk); (try clear hi); (try clear ho0)) | (go_at_call 39; (with_reducible refine (echo_Heard.calls kj9 _ _ l0 a1 t121 t122 _ ?side1 ?side2 A24.out).mono ?_); (case side1 => repeat (first | exact (Kd.C_below HR0.out HB.out) | (with_reducible refine Kd.C_alloc ?_ _) | (with_reducible refine Kd.C_drewN ?_ _) | (with_reducible refine Kd.C_drew ?_))); (case side2 => exact HC0.out); rintro e w29 ⟨v123, rfl, ho0, hb⟩; have n0_ := Aside0.mk (Kd.R_elder' (by (with_reducible repeat (first | apply Kd.R_alloc | apply Kd.R_drewN | apply Kd.R_drew)); exact HO_5.out) (Kd.R_base ho0) hb); have n1_ := Aside0.mk (Kd.R_elder' (by (with_reducible repeat (first | apply Kd.R_alloc | apply Kd.R_drewN | apply Kd.R_drew)); exact HO116.out) (Kd.R_base ho0) hb); have n2_ := Aside0.mk (Kd.R_elder' (by (with_reducible repeat (first | apply Kd.R_alloc | apply Kd.R_drewN | apply Kd.R_drew)); exact HO120.out) (Kd.R_base ho0) hb); have n3_ := Aside0.mk (Kd.R_lower (Kd.R_new' (Kd.R_new' (Kd.R_new' ho0 (Kd.R_lt (by (with_reducible repeat (first | apply Kd.R_alloc | apply Kd.R_drewN | apply Kd.R_drew)); exact HO_5.out))) (Kd.R_lt (by (with_reducible repeat (first | apply Kd.R_alloc | apply Kd.R_drewN | apply Kd.R_drew)); exact HO116.out))) (Kd.R_lt (by (with_reducible repeat (first | apply Kd.R_alloc | apply Kd.R_drewN | apply Kd.R_drew)); exact HO120.out))) (below_size (by repeat (first | (with_reducible first | exact HB.out | apply below_alloc | apply pw_below_drewN | apply below_drew1) | exact HB.out)))); have n4_ := Aside0.mk (below_step (by repeat (first | (with_reducible first | exact HB.out | apply below_alloc | apply pw_below_drewN | apply below_drew1) | exact HB.out)) hb); clear HO_5; clear HO116; clear HO120; clear HB; have HO_5 := n0_; have HO116 := n1_; have HO120 := n2_; have HO124 := n3_; have HB := n4_; clear n0_ n1_ n2_ n3_ n4_; (try clear hb); (try clear hb2); (try clear hk); (try clear hi); (try clear ho0))); go_upto_region 12 with (first | (go_at_call 17; (with_reducible refine (echo_Delays.calls kj9 _ _ l0 t113 t114 _ ?side1 ?side2 A22.out).mono ?_); (case side1 => repeat (first | exact (Kd.C_below HR0.out HB.out) | (with_reducible refine Kd.C_alloc ?_ _) | (with_reducible refine Kd.C_drewN ?_ _) | (with_reducible refine Kd.C_drew ?_))); (case side2 => exact HC0.out); rintro e w26 ⟨v115, rfl, ho0, hb⟩; have n0_ := Aside0.mk (Kd.R_elder' (by (with_reducible repeat (first | apply Kd.R_alloc | apply Kd.R_drewN | apply Kd.R_drew)); exact HO_5.out) (Kd.R_base ho0) hb); have n1_ := Aside0.mk (Kd.R_lower (Kd.R_new' ho0 (Kd.R_lt (by (with_reducible repeat (first | apply Kd.R_alloc | apply Kd.R_drewN | apply Kd.R_drew)); exact HO_5.out))) (below_size (by repeat (first | (with_reducible first | exact HB.out | apply below_alloc | apply pw_below_drewN | apply below_drew1) | exact HB.out)))); have n2_ := Aside0.mk (below_step (by repeat (first | (with_reducible first | exact HB.out | apply below_alloc | apply pw_below_drewN | apply below_drew1) | exact HB.out)) hb); clear HO_5; clear HB; have HO_5 := n0_; have HO116 := n1_; have HB := n2_; clear n0_ n1_ n2_; (try clear hb); (try clear hb2); (try clear hk); (try clear hi); (try clear ho0); obtain ⟨Ao27, co27, eo27⟩ := Kd.R_slice HO_5.out; subst eo27) | (go_at_call 17; (with_reducible refine (echo_Delays.calls kj9 _ _ t103 t117 t118 _ ?side1 ?side2 A23.out).mono ?_); (case side1 => repeat (first | exact (Kd.R_reads' HO_5.out).2.2 | (with_reducible refine Kd.C_alloc ?_ _) | (with_reducible refine Kd.C_drewN ?_ _) | (with_reducible refine Kd.C_drew ?_))); (case side2 => exact (Kd.R_reads' HO_5.out).2.1); rintro e w28 ⟨v119, rfl, ho0, hb⟩; have n0_ := Aside0.mk (Kd.R_elder' (by (with_reducible repeat (first | apply Kd.R_alloc | apply Kd.R_drewN | apply Kd.R_drew)); exact HO_5.out) (Kd.R_base ho0) hb); have n1_ := Aside0.mk (Kd.R_elder' (by (with_reducible repeat (first | apply Kd.R_alloc | apply Kd.R_drewN | apply Kd.R_drew)); exact HO116.out) (Kd.R_base ho0) hb); have n2_ := Aside0.mk (Kd.R_lower (Kd.R_new' (Kd.R_new' ho0 (Kd.R_lt (by (with_reducible repeat (first | apply Kd.R_alloc | apply Kd.R_drewN | apply Kd.R_drew)); exact HO_5.out))) (Kd.R_lt (by (with_reducible repeat (first | apply Kd.R_alloc | apply Kd.R_drewN | apply Kd.R_drew)); exact HO116.out))) (below_size (by repeat (first | (with_reducible first | exact HB.out | apply below_alloc | apply pw_below_drewN | apply below_drew1) | exact HB.out)))); have n3_ := Aside0.mk (below_step (by repeat (first | (with_reducible first | exact HB.out | apply below_alloc | apply pw_below_drewN | apply below_drew1) | exact HB.out)) hb); clear HO_5; clear HO116; clear HB; have HO_5 := n0_; have HO116 := n1_; have HO120 := n2_; have HB := n3_; clear n0_ n1_ n2_ n3_; (try clear hb); (try clear hb2); (try clear hk); (try clear hi); (try clear ho0)) | (go_at_call 39; (with_reducible refine (echo_Heard.calls kj9 _ _ l0 a1 t121 t122 _ ?side1 ?side2 A24.out).mono ?_); (case side1 => repeat (first | exact (Kd.C_below HR0.out HB.out) | (with_reducible refine Kd.C_alloc ?_ _) | (with_reducible refine Kd.C_drewN ?_ _) | (with_reducible refine Kd.C_drew ?_))); (case side2 => exact HC0.out); rintro e w29 ⟨v123, rfl, ho0, hb⟩; have n0_ := Aside0.mk (Kd.R_elder' (by (with_reducible repeat (first | apply Kd.R_alloc | apply Kd.R_drewN | apply Kd.R_drew)); exact HO_5.out) (Kd.R_base ho0) hb); have n1_ := Aside0.mk (Kd.R_elder' (by (with_reducible repeat (first | apply Kd.R_alloc | apply Kd.R_drewN | apply Kd.R_drew)); exact HO116.out) (Kd.R_base ho0) hb); have n2_ := Aside0.mk (Kd.R_elder' (by (with_reducible repeat (first | apply Kd.R_alloc | apply Kd.R_drewN | apply Kd.R_drew)); exact HO120.out) (Kd.R_base ho0) hb); have n3_ := Aside0.mk (Kd.R_lower (Kd.R_new' (Kd.R_new' (Kd.R_new' ho0 (Kd.R_lt (by (with_reducible repeat (first | apply Kd.R_alloc | apply Kd.R_drewN | apply Kd.R_drew)); exact HO_5.out))) (Kd.R_lt (by (with_reducible repeat (first | apply Kd.R_alloc | apply Kd.R_drewN | apply Kd.R_drew)); exact HO116.out))) (Kd.R_lt (by (with_reducible repeat (first | apply Kd.R_alloc | apply Kd.R_drewN | apply Kd.R_drew)); exact HO120.out))) (below_size (by repeat (first | (with_reducible first | exact HB.out | apply below_alloc | apply pw_below_drewN | apply below_drew1) | exact HB.out)))); have n4_ := Aside0.mk (below_step (by repeat (first | (with_reducible first | exact HB.out | apply below_alloc | apply pw_below_drewN | apply below_drew1) | exact HB.out)) hb); clear HO_5; clear HO116; clear HO120; clear HB; have HO_5 := n0_; have HO116 := n1_; have HO120 := n2_; have HO124 := n3_; have HB := n4_; clear n0_ n1_ n2_ n3_ n4_; (try clear hb); (try clear hb2); (try clear hk); (try clear hi); (try clear ho0))))
            (try simp only [Act.put, List.setIfInBounds_toArray, List.set_cons_zero, List.set_cons_succ])
            go_cut [88] (fun v88 wc => ∃ (kq : Nat) (x88_24 : Bool), v88 = .bool x88_24 ∧ Aside0 (diaphonelaw05_EchoWith.j1 kq t113 t117 t121 x88_24 = some r) ∧ Aside0 (kq ≤ kj9) ∧ Aside0 (Kd.R (Kd.int .i64) 3 wc w.heap.size (fun k_ => some k_ ≠ (v119 : Value).ownBlock ∧ some k_ ≠ (v123 : Value).ownBlock) v115 t113) ∧ Aside0 (Kd.R (Kd.int .i64) 3 wc w.heap.size (fun k_ => some k_ ≠ (v115 : Value).ownBlock ∧ some k_ ≠ (v123 : Value).ownBlock) v119 t117) ∧ Aside0 (Kd.R (Kd.int .i64) 3 wc w.heap.size (fun k_ => some k_ ≠ (v115 : Value).ownBlock ∧ some k_ ≠ (v119 : Value).ownBlock) v123 t121) ∧ Aside0 (Below w.heap.size w wc))
            case first =>
              have H := HC25.out
              clear HC25
              by_cases c30 : t114 = 0
              · rw [if_pos c30] at H
                have c30b0 : (t114 == 0) = true := beq_iff_eq.mpr c30
                have c30b1 : (t114 != 0) = false := bne_eq_false_iff_eq.mpr c30
                clear c30
                (first | rw [c30b0] | (simp only [i64_w, i32_w]; rw [c30b0]) | skip)
                by_cases c31 : t118 = 0
                · rw [if_pos c31] at H
                  have c31b0 : (t118 == 0) = true := beq_iff_eq.mpr c31
                  have c31b1 : (t118 != 0) = false := bne_eq_false_iff_eq.mpr c31
                  clear c31
                  by_cases c32 : t122 = 0
                  · rw [if_pos c32] at H
                    have c32b0 : (t122 == 0) = true := beq_iff_eq.mpr c32
                    have c32b1 : (t122 != 0) = false := bne_eq_false_iff_eq.mpr c32
                    clear c32
                    by_cases c33 : (t117.length : Int) = (wrap64 ((t113.length : Int) + (l0.length : Int)))
                    · rw [if_pos c33] at H
                      have c33b0 : ((t117.length : Int) == (wrap64 ((t113.length : Int) + (l0.length : Int)))) = true := beq_iff_eq.mpr c33
                      have c33b1 : ((t117.length : Int) != (wrap64 ((t113.length : Int) + (l0.length : Int)))) = false := bne_eq_false_iff_eq.mpr c33
                      clear c33
                      have H' := Aside0.mk H
                      clear H
                      obtain ⟨Ao34, co34, eo34⟩ := Kd.R_slice HO120.out
                      subst eo34
                      obtain ⟨Ao35, co35, eo35⟩ := Kd.R_slice HO116.out
                      subst eo35
                      obtain ⟨Ao36, co36, eo36⟩ := Kd.R_slice HO124.out
                      subst eo36
                      go_wp2
                      repeat (go_quiet (fail); try go_wp2)
                      go_meet
                      case rel => exact ⟨_, (((t121.length : Int) != (l0.length : Int))), (by first | rfl | (simp; done) | (simp [*]; done)), H', ⟨by have := HJ9.out; first | omega | exact Nat.le_refl _⟩, ⟨by (with_reducible repeat (first | apply Kd.R_alloc | apply Kd.R_drewN | apply Kd.R_drew)); exact Kd.R_mono HO116.out (fun _ hk => ⟨hk.1.2, hk.2⟩)⟩, ⟨by (with_reducible repeat (first | apply Kd.R_alloc | apply Kd.R_drewN | apply Kd.R_drew)); exact Kd.R_mono HO120.out (fun _ hk => ⟨hk.1.2, hk.2⟩)⟩, ⟨by (with_reducible repeat (first | apply Kd.R_alloc | apply Kd.R_drewN | apply Kd.R_drew)); exact Kd.R_mono HO124.out (fun _ hk => ⟨hk.1.2, hk.2⟩)⟩, ⟨by repeat (first | (with_reducible first | exact HB.out | apply below_alloc | apply pw_below_drewN | apply below_drew1) | exact HB.out)⟩⟩
                    · rw [if_neg c33] at H
                      have c33b0 : ((t117.length : Int) == (wrap64 ((t113.length : Int) + (l0.length : Int)))) = false := beq_eq_false_iff_ne.mpr c33
                      have c33b1 : ((t117.length : Int) != (wrap64 ((t113.length : Int) + (l0.length : Int)))) = true := bne_iff_ne.mpr c33
                      have H' := Aside0.mk H
                      clear H
                      obtain ⟨Ao37, co37, eo37⟩ := Kd.R_slice HO120.out
                      subst eo37
                      obtain ⟨Ao38, co38, eo38⟩ := Kd.R_slice HO116.out
                      subst eo38
                      go_wp2
                      repeat (go_quiet (fail); try go_wp2)
                      go_meet
                      case rel => exact ⟨_, (true), (by first | rfl | (simp; done) | (simp [*]; done)), H', ⟨by have := HJ9.out; first | omega | exact Nat.le_refl _⟩, ⟨by (with_reducible repeat (first | apply Kd.R_alloc | apply Kd.R_drewN | apply Kd.R_drew)); exact Kd.R_mono HO116.out (fun _ hk => ⟨hk.1.2, hk.2⟩)⟩, ⟨by (with_reducible repeat (first | apply Kd.R_alloc | apply Kd.R_drewN | apply Kd.R_drew)); exact Kd.R_mono HO120.out (fun _ hk => ⟨hk.1.2, hk.2⟩)⟩, ⟨by (with_reducible repeat (first | apply Kd.R_alloc | apply Kd.R_drewN | apply Kd.R_drew)); exact Kd.R_mono HO124.out (fun _ hk => ⟨hk.1.2, hk.2⟩)⟩, ⟨by repeat (first | (with_reducible first | exact HB.out | apply below_alloc | apply pw_below_drewN | apply below_drew1) | exact HB.out)⟩⟩
                  · rw [if_neg c32] at H
                    have c32b0 : (t122 == 0) = false := beq_eq_false_iff_ne.mpr c32
                    have c32b1 : (t122 != 0) = true := bne_iff_ne.mpr c32
                    have H' := Aside0.mk H
                    clear H
                    go_wp2
                    repeat (go_quiet (fail); try go_wp2)
                    go_meet
                    case rel => exact ⟨_, (true), (by first | rfl | (simp; done) | (simp [*]; done)), H', ⟨by have := HJ9.out; first | omega | exact Nat.le_refl _⟩, ⟨by (with_reducible repeat (first | apply Kd.R_alloc | apply Kd.R_drewN | apply Kd.R_drew)); exact Kd.R_mono HO116.out (fun _ hk => ⟨hk.1.2, hk.2⟩)⟩, ⟨by (with_reducible repeat (first | apply Kd.R_alloc | apply Kd.R_drewN | apply Kd.R_drew)); exact Kd.R_mono HO120.out (fun _ hk => ⟨hk.1.2, hk.2⟩)⟩, ⟨by (with_reducible repeat (first | apply Kd.R_alloc | apply Kd.R_drewN | apply Kd.R_drew)); exact Kd.R_mono HO124.out (fun _ hk => ⟨hk.1.2, hk.2⟩)⟩, ⟨by repeat (first | (with_reducible first | exact HB.out | apply below_alloc | apply pw_below_drewN | apply below_drew1) | exact HB.out)⟩⟩
                · rw [if_neg c31] at H
                  have c31b0 : (t118 == 0) = false := beq_eq_false_iff_ne.mpr c31
                  have c31b1 : (t118 != 0) = true := bne_iff_ne.mpr c31
                  have H' := Aside0.mk H
                  clear H
                  go_wp2
                  repeat (go_quiet (fail); try go_wp2)
                  go_meet
                  case rel => exact ⟨_, (true), (by first | rfl | (simp; done) | (simp [*]; done)), H', ⟨by have := HJ9.out; first | omega | exact Nat.le_refl _⟩, ⟨by (with_reducible repeat (first | apply Kd.R_alloc | apply Kd.R_drewN | apply Kd.R_drew)); exact Kd.R_mono HO116.out (fun _ hk => ⟨hk.1.2, hk.2⟩)⟩, ⟨by (with_reducible repeat (first | apply Kd.R_alloc | apply Kd.R_drewN | apply Kd.R_drew)); exact Kd.R_mono HO120.out (fun _ hk => ⟨hk.1.2, hk.2⟩)⟩, ⟨by (with_reducible repeat (first | apply Kd.R_alloc | apply Kd.R_drewN | apply Kd.R_drew)); exact Kd.R_mono HO124.out (fun _ hk => ⟨hk.1.2, hk.2⟩)⟩, ⟨by repeat (first | (with_reducible first | exact HB.out | apply below_alloc | apply pw_below_drewN | apply below_drew1) | exact HB.out)⟩⟩
              · rw [if_neg c30] at H
                have c30b0 : (t114 == 0) = false := beq_eq_false_iff_ne.mpr c30
                have c30b1 : (t114 != 0) = true := bne_iff_ne.mpr c30
                (first | rw [c30b0] | (simp only [i64_w, i32_w]; rw [c30b0]) | skip)
                have H' := Aside0.mk H
                clear H
                go_wp2
                repeat (go_quiet (fail); try go_wp2)
                go_meet
                case rel => exact ⟨_, (true), (by first | rfl | (simp; done) | (simp [*]; done)), H', ⟨by have := HJ9.out; first | omega | exact Nat.le_refl _⟩, ⟨by (with_reducible repeat (first | apply Kd.R_alloc | apply Kd.R_drewN | apply Kd.R_drew)); exact Kd.R_mono HO116.out (fun _ hk => ⟨hk.1.2, hk.2⟩)⟩, ⟨by (with_reducible repeat (first | apply Kd.R_alloc | apply Kd.R_drewN | apply Kd.R_drew)); exact Kd.R_mono HO120.out (fun _ hk => ⟨hk.1.2, hk.2⟩)⟩, ⟨by (with_reducible repeat (first | apply Kd.R_alloc | apply Kd.R_drewN | apply Kd.R_drew)); exact Kd.R_mono HO124.out (fun _ hk => ⟨hk.1.2, hk.2⟩)⟩, ⟨by repeat (first | (with_reducible first | exact HB.out | apply below_alloc | apply pw_below_drewN | apply below_drew1) | exact HB.out)⟩⟩
            case rest =>
              clear HC25
              try clear c1
              try clear c2
              try clear p2
              try clear c3
              try clear c4
              try clear p6
              try clear c12
              try clear c15
              try clear c20
              try clear c21
              try clear c21b0
              try clear c21b1
              try clear c30
              try clear c30b0
              try clear c30b1
              try clear c31
              try clear c31b0
              try clear c31b1
              try clear c32
              try clear c32b0
              try clear c32b1
              try clear c33
              try clear c33b0
              try clear c33b1
              try clear p2
              obtain ⟨kq, x88_24, rfl, HA, HJ24, HO_9, HO_11, HO_13, HB⟩ := hcut
              cases kq with
              | zero => exact absurd HA.out (by simp [diaphonelaw05_EchoWith.j1])
              | succ kj24 =>
                have H := HA.out
                clear HA
                simp only [diaphonelaw05_EchoWith.j1] at H
                by_cases c39 : x88_24 = true
                · subst c39
                  have H1 : (some false) = some r := by rw [if_pos rfl] at H; exact H
                  clear H
                  have H := H1
                  clear H1
                  exact absurd (Option.some.inj H) (by rw [HRT.out]; decide)
                · replace c39 := Bool.eq_false_iff.mpr c39
                  subst c39
                  have H1 : (diaphonelaw05_EchoWith.l0 kj24 t113 t117 t121 0 0 0) = some r := by rw [if_neg (show ¬ (false = true) by decide)] at H; exact H
                  clear H
                  have H := H1
                  clear H1
                  have H' := Aside0.mk H
                  clear H
                  go_wp2
                  repeat (go_quiet (fail); try go_wp2)
                  go_loopg [15, 16, 17] kj24 (fun kq v15 v16 v17 w' => ∃ (x15_3 : Int) (x16_3 : Int) (x17_3 : Int), v15 = .int .i64 x15_3 ∧ v16 = .int .i64 x16_3 ∧ v17 = .int .i64 x17_3 ∧ Aside0 (diaphonelaw05_EchoWith.l0 kq t113 t117 t121 x15_3 x16_3 x17_3 = some r) ∧ Aside0 (kq ≤ kj24) ∧ Aside0 (Kd.R (Kd.int .i64) 3 w' w.heap.size (fun k_ => some k_ ≠ (v119 : Value).ownBlock ∧ some k_ ≠ (v123 : Value).ownBlock) v115 t113) ∧ Aside0 (Kd.R (Kd.int .i64) 3 w' w.heap.size (fun k_ => some k_ ≠ (v115 : Value).ownBlock ∧ some k_ ≠ (v123 : Value).ownBlock) v119 t117) ∧ Aside0 (Kd.R (Kd.int .i64) 3 w' w.heap.size (fun k_ => some k_ ≠ (v115 : Value).ownBlock ∧ some k_ ≠ (v119 : Value).ownBlock) v123 t121) ∧ Aside0 (Below w.heap.size w w'))
                  case atStart => exact ⟨(0), (0), (0), (by first | rfl | (simp; done) | (simp [*]; done)), (by first | rfl | (simp; done) | (simp [*]; done)), (by first | rfl | (simp; done) | (simp [*]; done)), H', ⟨Nat.le_refl _⟩, ⟨by (with_reducible repeat (first | apply Kd.R_alloc | apply Kd.R_drewN | apply Kd.R_drew)); exact HO_9.out⟩, ⟨by (with_reducible repeat (first | apply Kd.R_alloc | apply Kd.R_drewN | apply Kd.R_drew)); exact HO_11.out⟩, ⟨by (with_reducible repeat (first | apply Kd.R_alloc | apply Kd.R_drewN | apply Kd.R_drew)); exact HO_13.out⟩, ⟨by repeat (first | (with_reducible first | exact HB.out | apply below_alloc | apply pw_below_drewN | apply below_drew1) | exact HB.out)⟩⟩
                  case round =>
                    clear H'
                    try clear c1
                    try clear c2
                    try clear p2
                    try clear c3
                    try clear c4
                    try clear p6
                    try clear c12
                    try clear c15
                    try clear c20
                    try clear c21
                    try clear c21b0
                    try clear c21b1
                    try clear c30
                    try clear c30b0
                    try clear c30b1
                    try clear c31
                    try clear c31b0
                    try clear c31b1
                    try clear c32
                    try clear c32b0
                    try clear c32b1
                    try clear c33
                    try clear c33b0
                    try clear c33b1
                    try clear c39
                    try clear p2
                    try clear p6
                    obtain ⟨x15_3, x16_3, x17_3, rfl, rfl, rfl, HA, HK3, HO_9, HO_11, HO_13, HB⟩ := hrel
                    cases gk with
                    | zero => exact absurd HA.out (by simp [diaphonelaw05_EchoWith.l0])
                    | succ k3 =>
                      have H := HA.out
                      clear HA
                      simp only [diaphonelaw05_EchoWith.l0] at H
                      by_cases c40 : x17_3 < (t117.length : Int)
                      · rw [if_pos c40] at H
                        have c40b0 : decide (x17_3 < (t117.length : Int)) = true := decide_eq_true c40
                        clear c40
                        have HC41 := Aside0.mk H
                        clear H
                        obtain ⟨Ao42, co42, eo42⟩ := Kd.R_slice HO_11.out
                        subst eo42
                        go_upto_region 18 with (fail)
                        repeat (go_quiet (fail); go_upto_region 18 with (fail))
                        go_cut [127] (fun v127 wc => ∃ (kq : Nat) (x127_40 : Bool), v127 = .bool x127_40 ∧ Aside0 (diaphonelaw05_EchoWith.j3 kq t113 t117 t121 x15_3 x16_3 x17_3 x127_40 = some r) ∧ Aside0 (kq ≤ k3) ∧ Aside0 (Kd.R (Kd.int .i64) 3 wc w.heap.size (fun k_ => some k_ ≠ ((.slice Ao42 t117.length co42) : Value).ownBlock ∧ some k_ ≠ (v123 : Value).ownBlock) v115 t113) ∧ Aside0 (Kd.R (Kd.int .i64) 3 wc w.heap.size (fun k_ => some k_ ≠ (v115 : Value).ownBlock ∧ some k_ ≠ (v123 : Value).ownBlock) (.slice Ao42 t117.length co42) t117) ∧ Aside0 (Kd.R (Kd.int .i64) 3 wc w.heap.size (fun k_ => some k_ ≠ (v115 : Value).ownBlock ∧ some k_ ≠ ((.slice Ao42 t117.length co42) : Value).ownBlock) v123 t121) ∧ Aside0 (Below w.heap.size w wc))
                        case first =>
                          have H := HC41.out
                          clear HC41
                          by_cases c43 : x15_3 < (t113.length : Int)
                          · rw [if_pos c43] at H
                            have c43b0 : decide (x15_3 < (t113.length : Int)) = true := decide_eq_true c43
                            clear c43
                            (first | rw [c43b0] | (simp only [i64_w, i32_w]; rw [c43b0]) | skip)
                            by_cases c44 : 0 ≤ x15_3
                            · rw [if_pos c44] at H
                              have c44b0 : decide (0 ≤ x15_3) = true := decide_eq_true c44
                              clear c44
                              by_cases c45 : 0 ≤ x17_3
                              · rw [if_pos c45] at H
                                have c45b0 : decide (0 ≤ x17_3) = true := decide_eq_true c45
                                clear c45
                                by_cases c46 : (rd t113 x15_3) < (rd t117 x17_3)
                                · rw [if_pos c46] at H
                                  have c46b0 : decide ((rd t113 x15_3) < (rd t117 x17_3)) = true := decide_eq_true c46
                                  clear c46
                                  have H' := Aside0.mk H
                                  clear H
                                  obtain ⟨Ao47, co47, eo47⟩ := Kd.R_slice HO_9.out
                                  subst eo47
                                  have p126 : 0 ≤ (x15_3 : Int) := of_decide_eq_true (by first | (with_reducible assumption) | assumption)
                                  have q126 : x15_3 < (t113.length : Int) := of_decide_eq_true (by first | (with_reducible assumption) | assumption)
                                  obtain ⟨ad126, e126, hx126_0⟩ := Kd.at_int (Kd.R_reads' HO_9.out).2.2 x15_3 p126 q126
                                  cases e126
                                  replace p126 := eq_true p126
                                  replace q126 := eq_true q126
                                  have p127 : 0 ≤ (x17_3 : Int) := of_decide_eq_true (by first | (with_reducible assumption) | assumption)
                                  have q127 : x17_3 < (t117.length : Int) := of_decide_eq_true (by first | (with_reducible assumption) | assumption)
                                  obtain ⟨ad127, e127, hx127_0⟩ := Kd.at_int (Kd.R_reads' HO_11.out).2.2 x17_3 p127 q127
                                  cases e127
                                  replace p127 := eq_true p127
                                  replace q127 := eq_true q127
                                  go_wp2
                                  repeat (go_quiet (fail); try go_wp2)
                                  go_meet
                                  case rel => exact ⟨_, (true), (by first | rfl | (simp; done) | (simp [*]; done)), H', ⟨by have := HJ9.out; have := HJ24.out; have := HK3.out; first | omega | exact Nat.le_refl _⟩, ⟨by (with_reducible repeat (first | apply Kd.R_alloc | apply Kd.R_drewN | apply Kd.R_drew)); exact HO_9.out⟩, ⟨by (with_reducible repeat (first | apply Kd.R_alloc | apply Kd.R_drewN | apply Kd.R_drew)); exact HO_11.out⟩, ⟨by (with_reducible repeat (first | apply Kd.R_alloc | apply Kd.R_drewN | apply Kd.R_drew)); exact HO_13.out⟩, ⟨by repeat (first | (with_reducible first | exact HB.out | apply below_alloc | apply pw_below_drewN | apply below_drew1) | exact HB.out)⟩⟩
                                · rw [if_neg c46] at H
                                  have c46b0 : decide ((rd t113 x15_3) < (rd t117 x17_3)) = false := decide_eq_false c46
                                  clear c46
                                  by_cases c48 : x16_3 < (t121.length : Int)
                                  · rw [if_pos c48] at H
                                    have c48b0 : decide (x16_3 < (t121.length : Int)) = true := decide_eq_true c48
                                    clear c48
                                    by_cases c49 : 0 ≤ x16_3
                                    · rw [if_pos c49] at H
                                      have c49b0 : decide (0 ≤ x16_3) = true := decide_eq_true c49
                                      clear c49
                                      have H' := Aside0.mk H
                                      clear H
                                      obtain ⟨Ao50, co50, eo50⟩ := Kd.R_slice HO_9.out
                                      subst eo50
                                      have p126 : 0 ≤ (x15_3 : Int) := of_decide_eq_true (by first | (with_reducible assumption) | assumption)
                                      have q126 : x15_3 < (t113.length : Int) := of_decide_eq_true (by first | (with_reducible assumption) | assumption)
                                      obtain ⟨ad126, e126, hx126_0⟩ := Kd.at_int (Kd.R_reads' HO_9.out).2.2 x15_3 p126 q126
                                      cases e126
                                      replace p126 := eq_true p126
                                      replace q126 := eq_true q126
                                      have p127 : 0 ≤ (x17_3 : Int) := of_decide_eq_true (by first | (with_reducible assumption) | assumption)
                                      have q127 : x17_3 < (t117.length : Int) := of_decide_eq_true (by first | (with_reducible assumption) | assumption)
                                      obtain ⟨ad127, e127, hx127_0⟩ := Kd.at_int (Kd.R_reads' HO_11.out).2.2 x17_3 p127 q127
                                      cases e127
                                      replace p127 := eq_true p127
                                      replace q127 := eq_true q127
                                      obtain ⟨Ao51, co51, eo51⟩ := Kd.R_slice HO_13.out
                                      subst eo51
                                      have p128 : 0 ≤ (x16_3 : Int) := of_decide_eq_true (by first | (with_reducible assumption) | assumption)
                                      have q128 : x16_3 < (t121.length : Int) := of_decide_eq_true (by first | (with_reducible assumption) | assumption)
                                      obtain ⟨ad128, e128, hx128_0⟩ := Kd.at_int (Kd.R_reads' HO_13.out).2.2 x16_3 p128 q128
                                      cases e128
                                      replace p128 := eq_true p128
                                      replace q128 := eq_true q128
                                      have p129 : 0 ≤ (x17_3 : Int) := of_decide_eq_true (by first | (with_reducible assumption) | assumption)
                                      have q129 : x17_3 < (t117.length : Int) := of_decide_eq_true (by first | (with_reducible assumption) | assumption)
                                      obtain ⟨ad129, e129, hx129_0⟩ := Kd.at_int (Kd.R_reads' HO_11.out).2.2 x17_3 p129 q129
                                      obtain rfl : ad127 = ad129 := (by injection e129)
                                      replace p129 := eq_true p129
                                      replace q129 := eq_true q129
                                      go_wp2
                                      repeat (go_quiet (fail); try go_wp2)
                                      go_meet
                                      case rel => exact ⟨_, (decide ((rd t121 x16_3) < (wrap64 (2 * (rd t117 x17_3))))), (by first | rfl | (simp; done) | (simp [*]; done)), H', ⟨by have := HJ9.out; have := HJ24.out; have := HK3.out; first | omega | exact Nat.le_refl _⟩, ⟨by (with_reducible repeat (first | apply Kd.R_alloc | apply Kd.R_drewN | apply Kd.R_drew)); exact HO_9.out⟩, ⟨by (with_reducible repeat (first | apply Kd.R_alloc | apply Kd.R_drewN | apply Kd.R_drew)); exact HO_11.out⟩, ⟨by (with_reducible repeat (first | apply Kd.R_alloc | apply Kd.R_drewN | apply Kd.R_drew)); exact HO_13.out⟩, ⟨by repeat (first | (with_reducible first | exact HB.out | apply below_alloc | apply pw_below_drewN | apply below_drew1) | exact HB.out)⟩⟩
                                    · rw [if_neg c49] at H
                                      exact absurd H (by simp)
                                  · rw [if_neg c48] at H
                                    have c48b0 : decide (x16_3 < (t121.length : Int)) = false := decide_eq_false c48
                                    clear c48
                                    have H' := Aside0.mk H
                                    clear H
                                    obtain ⟨Ao52, co52, eo52⟩ := Kd.R_slice HO_9.out
                                    subst eo52
                                    have p126 : 0 ≤ (x15_3 : Int) := of_decide_eq_true (by first | (with_reducible assumption) | assumption)
                                    have q126 : x15_3 < (t113.length : Int) := of_decide_eq_true (by first | (with_reducible assumption) | assumption)
                                    obtain ⟨ad126, e126, hx126_0⟩ := Kd.at_int (Kd.R_reads' HO_9.out).2.2 x15_3 p126 q126
                                    cases e126
                                    replace p126 := eq_true p126
                                    replace q126 := eq_true q126
                                    have p127 : 0 ≤ (x17_3 : Int) := of_decide_eq_true (by first | (with_reducible assumption) | assumption)
                                    have q127 : x17_3 < (t117.length : Int) := of_decide_eq_true (by first | (with_reducible assumption) | assumption)
                                    obtain ⟨ad127, e127, hx127_0⟩ := Kd.at_int (Kd.R_reads' HO_11.out).2.2 x17_3 p127 q127
                                    cases e127
                                    replace p127 := eq_true p127
                                    replace q127 := eq_true q127
                                    obtain ⟨Ao53, co53, eo53⟩ := Kd.R_slice HO_13.out
                                    subst eo53
                                    go_wp2
                                    repeat (go_quiet (fail); try go_wp2)
                                    go_meet
                                    case rel => exact ⟨_, (false), (by first | rfl | (simp; done) | (simp [*]; done)), H', ⟨by have := HJ9.out; have := HJ24.out; have := HK3.out; first | omega | exact Nat.le_refl _⟩, ⟨by (with_reducible repeat (first | apply Kd.R_alloc | apply Kd.R_drewN | apply Kd.R_drew)); exact HO_9.out⟩, ⟨by (with_reducible repeat (first | apply Kd.R_alloc | apply Kd.R_drewN | apply Kd.R_drew)); exact HO_11.out⟩, ⟨by (with_reducible repeat (first | apply Kd.R_alloc | apply Kd.R_drewN | apply Kd.R_drew)); exact HO_13.out⟩, ⟨by repeat (first | (with_reducible first | exact HB.out | apply below_alloc | apply pw_below_drewN | apply below_drew1) | exact HB.out)⟩⟩
                              · rw [if_neg c45] at H
                                exact absurd H (by simp)
                            · rw [if_neg c44] at H
                              exact absurd H (by simp)
                          · rw [if_neg c43] at H
                            have c43b0 : decide (x15_3 < (t113.length : Int)) = false := decide_eq_false c43
                            clear c43
                            (first | rw [c43b0] | (simp only [i64_w, i32_w]; rw [c43b0]) | skip)
                            by_cases c54 : x16_3 < (t121.length : Int)
                            · rw [if_pos c54] at H
                              have c54b0 : decide (x16_3 < (t121.length : Int)) = true := decide_eq_true c54
                              clear c54
                              by_cases c55 : 0 ≤ x16_3
                              · rw [if_pos c55] at H
                                have c55b0 : decide (0 ≤ x16_3) = true := decide_eq_true c55
                                clear c55
                                by_cases c56 : 0 ≤ x17_3
                                · rw [if_pos c56] at H
                                  have c56b0 : decide (0 ≤ x17_3) = true := decide_eq_true c56
                                  clear c56
                                  have H' := Aside0.mk H
                                  clear H
                                  obtain ⟨Ao57, co57, eo57⟩ := Kd.R_slice HO_9.out
                                  subst eo57
                                  obtain ⟨Ao58, co58, eo58⟩ := Kd.R_slice HO_13.out
                                  subst eo58
                                  have p130 : 0 ≤ (x16_3 : Int) := of_decide_eq_true (by first | (with_reducible assumption) | assumption)
                                  have q130 : x16_3 < (t121.length : Int) := of_decide_eq_true (by first | (with_reducible assumption) | assumption)
                                  obtain ⟨ad130, e130, hx130_0⟩ := Kd.at_int (Kd.R_reads' HO_13.out).2.2 x16_3 p130 q130
                                  cases e130
                                  replace p130 := eq_true p130
                                  replace q130 := eq_true q130
                                  have p131 : 0 ≤ (x17_3 : Int) := of_decide_eq_true (by first | (with_reducible assumption) | assumption)
                                  have q131 : x17_3 < (t117.length : Int) := of_decide_eq_true (by first | (with_reducible assumption) | assumption)
                                  obtain ⟨ad131, e131, hx131_0⟩ := Kd.at_int (Kd.R_reads' HO_11.out).2.2 x17_3 p131 q131
                                  cases e131
                                  replace p131 := eq_true p131
                                  replace q131 := eq_true q131
                                  go_wp2
                                  repeat (go_quiet (fail); try go_wp2)
                                  go_meet
                                  case rel => exact ⟨_, (decide ((rd t121 x16_3) < (wrap64 (2 * (rd t117 x17_3))))), (by first | rfl | (simp; done) | (simp [*]; done)), H', ⟨by have := HJ9.out; have := HJ24.out; have := HK3.out; first | omega | exact Nat.le_refl _⟩, ⟨by (with_reducible repeat (first | apply Kd.R_alloc | apply Kd.R_drewN | apply Kd.R_drew)); exact HO_9.out⟩, ⟨by (with_reducible repeat (first | apply Kd.R_alloc | apply Kd.R_drewN | apply Kd.R_drew)); exact HO_11.out⟩, ⟨by (with_reducible repeat (first | apply Kd.R_alloc | apply Kd.R_drewN | apply Kd.R_drew)); exact HO_13.out⟩, ⟨by repeat (first | (with_reducible first | exact HB.out | apply below_alloc | apply pw_below_drewN | apply below_drew1) | exact HB.out)⟩⟩
                                · rw [if_neg c56] at H
                                  exact absurd H (by simp)
                              · rw [if_neg c55] at H
                                exact absurd H (by simp)
                            · rw [if_neg c54] at H
                              have c54b0 : decide (x16_3 < (t121.length : Int)) = false := decide_eq_false c54
                              clear c54
                              have H' := Aside0.mk H
                              clear H
                              obtain ⟨Ao59, co59, eo59⟩ := Kd.R_slice HO_9.out
                              subst eo59
                              obtain ⟨Ao60, co60, eo60⟩ := Kd.R_slice HO_13.out
                              subst eo60
                              go_wp2
                              repeat (go_quiet (fail); try go_wp2)
                              go_meet
                              case rel => exact ⟨_, (false), (by first | rfl | (simp; done) | (simp [*]; done)), H', ⟨by have := HJ9.out; have := HJ24.out; have := HK3.out; first | omega | exact Nat.le_refl _⟩, ⟨by (with_reducible repeat (first | apply Kd.R_alloc | apply Kd.R_drewN | apply Kd.R_drew)); exact HO_9.out⟩, ⟨by (with_reducible repeat (first | apply Kd.R_alloc | apply Kd.R_drewN | apply Kd.R_drew)); exact HO_11.out⟩, ⟨by (with_reducible repeat (first | apply Kd.R_alloc | apply Kd.R_drewN | apply Kd.R_drew)); exact HO_13.out⟩, ⟨by repeat (first | (with_reducible first | exact HB.out | apply below_alloc | apply pw_below_drewN | apply below_drew1) | exact HB.out)⟩⟩
                        case rest =>
                          clear HC41
                          try clear c1
                          try clear p1
                          try clear q1
                          try clear hx1
                          try clear c2
                          try clear p2
                          try clear c3
                          try clear c4
                          try clear c5
                          try clear p6
                          try clear c12
                          try clear p12
                          try clear q12
                          try clear hx12
                          try clear p13
                          try clear q13
                          try clear hx13
                          try clear c15
                          try clear c20
                          try clear c21
                          try clear c21b0
                          try clear c21b1
                          try clear c30
                          try clear c30b0
                          try clear c30b1
                          try clear c31
                          try clear c31b0
                          try clear c31b1
                          try clear c32
                          try clear c32b0
                          try clear c32b1
                          try clear c33
                          try clear c33b0
                          try clear c33b1
                          try clear c39
                          try clear c40
                          try clear c40b0
                          try clear c43
                          try clear c43b0
                          try clear c44
                          try clear c44b0
                          try clear c45
                          try clear c45b0
                          try clear c46
                          try clear c46b0
                          try clear c48
                          try clear c48b0
                          try clear c49
                          try clear c49b0
                          try clear c54
                          try clear c54b0
                          try clear c55
                          try clear c55b0
                          try clear c56
                          try clear c56b0
                          try clear hx126_0
                          try clear hx127_0
                          try clear hx128_0
                          try clear hx129_0
                          try clear hx130_0
                          try clear hx131_0
                          try clear p126
                          try clear p127
                          try clear p128
                          try clear p129
                          try clear p130
                          try clear p131
                          try clear p2
                          try clear p6
                          try clear q126
                          try clear q127
                          try clear q128
                          try clear q129
                          try clear q130
                          try clear q131
                          obtain ⟨kq, x127_40, rfl, HA, HJ40, HO_9, HO_11, HO_13, HB⟩ := hcut
                          cases kq with
                          | zero => exact absurd HA.out (by simp [diaphonelaw05_EchoWith.j3])
                          | succ kj40 =>
                            have H := HA.out
                            clear HA
                            simp only [diaphonelaw05_EchoWith.j3] at H
                            by_cases c61 : x127_40 = true
                            · subst c61
                              have H1 : (some false) = some r := by rw [if_pos rfl] at H; exact H
                              clear H
                              have H := H1
                              clear H1
                              exact absurd (Option.some.inj H) (by rw [HRT.out]; decide)
                            · replace c61 := Bool.eq_false_iff.mpr c61
                              subst c61
                              have H1 : (if x15_3 < (t113.length : Int) then (if 0 ≤ x15_3 then (if 0 ≤ x17_3 then (if x17_3 < (t117.length : Int) then (diaphonelaw05_EchoWith.j4 kj40 t113 t117 t121 x15_3 x16_3 x17_3 ((rd t113 x15_3) == (rd t117 x17_3))) else (none)) else (none)) else (none)) else (diaphonelaw05_EchoWith.j4 kj40 t113 t117 t121 x15_3 x16_3 x17_3 false)) = some r := by rw [if_neg (show ¬ (false = true) by decide)] at H; exact H
                              clear H
                              have H := H1
                              clear H1
                              have HC62 := Aside0.mk H
                              clear H
                              go_upto_region 20 with (fail)
                              repeat (go_quiet (fail); go_upto_region 20 with (fail))
                              go_cut [142] (fun v142 wc => ∃ (kq : Nat) (x142_61 : Bool), v142 = .bool x142_61 ∧ Aside0 (diaphonelaw05_EchoWith.j4 kq t113 t117 t121 x15_3 x16_3 x17_3 x142_61 = some r) ∧ Aside0 (kq ≤ kj40) ∧ Aside0 (Kd.R (Kd.int .i64) 3 wc w.heap.size (fun k_ => some k_ ≠ ((.slice Ao42 t117.length co42) : Value).ownBlock ∧ some k_ ≠ (v123 : Value).ownBlock) v115 t113) ∧ Aside0 (Kd.R (Kd.int .i64) 3 wc w.heap.size (fun k_ => some k_ ≠ (v115 : Value).ownBlock ∧ some k_ ≠ (v123 : Value).ownBlock) (.slice Ao42 t117.length co42) t117) ∧ Aside0 (Kd.R (Kd.int .i64) 3 wc w.heap.size (fun k_ => some k_ ≠ (v115 : Value).ownBlock ∧ some k_ ≠ ((.slice Ao42 t117.length co42) : Value).ownBlock) v123 t121) ∧ Aside0 (Below w.heap.size w wc))
                              case first =>
                                have H := HC62.out
                                clear HC62
                                by_cases c63 : x15_3 < (t113.length : Int)
                                · rw [if_pos c63] at H
                                  have c63b0 : decide (x15_3 < (t113.length : Int)) = true := decide_eq_true c63
                                  clear c63
                                  (first | rw [c63b0] | (simp only [i64_w, i32_w]; rw [c63b0]) | skip)
                                  by_cases c64 : 0 ≤ x15_3
                                  · rw [if_pos c64] at H
                                    have c64b0 : decide (0 ≤ x15_3) = true := decide_eq_true c64
                                    clear c64
                                    by_cases c65 : 0 ≤ x17_3
                                    · rw [if_pos c65] at H
                                      have c65b0 : decide (0 ≤ x17_3) = true := decide_eq_true c65
                                      clear c65
                                      by_cases c66 : x17_3 < (t117.length : Int)
                                      · rw [if_pos c66] at H
                                        have c66b0 : decide (x17_3 < (t117.length : Int)) = true := decide_eq_true c66
                                        clear c66
                                        have H' := Aside0.mk H
                                        clear H
                                        obtain ⟨Ao67, co67, eo67⟩ := Kd.R_slice HO_9.out
                                        subst eo67
                                        have p132 : 0 ≤ (x15_3 : Int) := of_decide_eq_true (by first | (with_reducible assumption) | assumption)
                                        have q132 : x15_3 < (t113.length : Int) := of_decide_eq_true (by first | (with_reducible assumption) | assumption)
                                        obtain ⟨ad132, e132, hx132_0⟩ := Kd.at_int (Kd.R_reads' HO_9.out).2.2 x15_3 p132 q132
                                        cases e132
                                        replace p132 := eq_true p132
                                        replace q132 := eq_true q132
                                        have p133 : 0 ≤ (x17_3 : Int) := of_decide_eq_true (by first | (with_reducible assumption) | assumption)
                                        have q133 : x17_3 < (t117.length : Int) := of_decide_eq_true (by first | (with_reducible assumption) | assumption)
                                        obtain ⟨ad133, e133, hx133_0⟩ := Kd.at_int (Kd.R_reads' HO_11.out).2.2 x17_3 p133 q133
                                        cases e133
                                        replace p133 := eq_true p133
                                        replace q133 := eq_true q133
                                        go_wp2
                                        repeat (go_quiet (fail); try go_wp2)
                                        go_meet
                                        case rel => exact ⟨_, (((rd t113 x15_3) == (rd t117 x17_3))), (by first | rfl | (simp; done) | (simp [*]; done)), H', ⟨by have := HJ9.out; have := HJ24.out; have := HK3.out; have := HJ40.out; first | omega | exact Nat.le_refl _⟩, ⟨by (with_reducible repeat (first | apply Kd.R_alloc | apply Kd.R_drewN | apply Kd.R_drew)); exact HO_9.out⟩, ⟨by (with_reducible repeat (first | apply Kd.R_alloc | apply Kd.R_drewN | apply Kd.R_drew)); exact HO_11.out⟩, ⟨by (with_reducible repeat (first | apply Kd.R_alloc | apply Kd.R_drewN | apply Kd.R_drew)); exact HO_13.out⟩, ⟨by repeat (first | (with_reducible first | exact HB.out | apply below_alloc | apply pw_below_drewN | apply below_drew1) | exact HB.out)⟩⟩
                                      · rw [if_neg c66] at H
                                        exact absurd H (by simp)
                                    · rw [if_neg c65] at H
                                      exact absurd H (by simp)
                                  · rw [if_neg c64] at H
                                    exact absurd H (by simp)
                                · rw [if_neg c63] at H
                                  have c63b0 : decide (x15_3 < (t113.length : Int)) = false := decide_eq_false c63
                                  clear c63
                                  (first | rw [c63b0] | (simp only [i64_w, i32_w]; rw [c63b0]) | skip)
                                  have H' := Aside0.mk H
                                  clear H
                                  obtain ⟨Ao68, co68, eo68⟩ := Kd.R_slice HO_9.out
                                  subst eo68
                                  go_wp2
                                  repeat (go_quiet (fail); try go_wp2)
                                  go_meet
                                  case rel => exact ⟨_, (false), (by first | rfl | (simp; done) | (simp [*]; done)), H', ⟨by have := HJ9.out; have := HJ24.out; have := HK3.out; have := HJ40.out; first | omega | exact Nat.le_refl _⟩, ⟨by (with_reducible repeat (first | apply Kd.R_alloc | apply Kd.R_drewN | apply Kd.R_drew)); exact HO_9.out⟩, ⟨by (with_reducible repeat (first | apply Kd.R_alloc | apply Kd.R_drewN | apply Kd.R_drew)); exact HO_11.out⟩, ⟨by (with_reducible repeat (first | apply Kd.R_alloc | apply Kd.R_drewN | apply Kd.R_drew)); exact HO_13.out⟩, ⟨by repeat (first | (with_reducible first | exact HB.out | apply below_alloc | apply pw_below_drewN | apply below_drew1) | exact HB.out)⟩⟩
                              case rest =>
                                clear HC62
                                try clear c1
                                try clear p1
                                try clear q1
                                try clear hx1
                                try clear c2
                                try clear p2
                                try clear c3
                                try clear c4
                                try clear c5
                                try clear c6
                                try clear p6
                                try clear c12
                                try clear p12
                                try clear q12
                                try clear hx12
                                try clear p13
                                try clear q13
                                try clear hx13
                                try clear c15
                                try clear c20
                                try clear c21
                                try clear c21b0
                                try clear c21b1
                                try clear c30
                                try clear c30b0
                                try clear c30b1
                                try clear c31
                                try clear c31b0
                                try clear c31b1
                                try clear c32
                                try clear c32b0
                                try clear c32b1
                                try clear c33
                                try clear c33b0
                                try clear c33b1
                                try clear c39
                                try clear c40
                                try clear c40b0
                                try clear c43
                                try clear c43b0
                                try clear c44
                                try clear c44b0
                                try clear c45
                                try clear c45b0
                                try clear c46
                                try clear c46b0
                                try clear c48
                                try clear c48b0
                                try clear c49
                                try clear c49b0
                                try clear c54
                                try clear c54b0
                                try clear c55
                                try clear c55b0
                                try clear c56
                                try clear c56b0
                                try clear c61
                                try clear c63
                                try clear c63b0
                                try clear c64
                                try clear c64b0
                                try clear p64
                                try clear c65
                                try clear c65b0
                                try clear c66
                                try clear c66b0
                                try clear hx126_0
                                try clear hx127_0
                                try clear hx128_0
                                try clear hx129_0
                                try clear hx130_0
                                try clear hx131_0
                                try clear hx132_0
                                try clear hx133_0
                                try clear p1
                                try clear p12
                                try clear p126
                                try clear p127
                                try clear p128
                                try clear p129
                                try clear p13
                                try clear p130
                                try clear p131
                                try clear p132
                                try clear p133
                                try clear p2
                                try clear p6
                                try clear q1
                                try clear q12
                                try clear q126
                                try clear q127
                                try clear q128
                                try clear q129
                                try clear q13
                                try clear q130
                                try clear q131
                                try clear q132
                                try clear q133
                                obtain ⟨kq, x142_61, rfl, HA, HJ61, HO_9, HO_11, HO_13, HB⟩ := hcut
                                cases kq with
                                | zero => exact absurd HA.out (by simp [diaphonelaw05_EchoWith.j4])
                                | succ kj61 =>
                                  have H := HA.out
                                  clear HA
                                  simp only [diaphonelaw05_EchoWith.j4] at H
                                  by_cases c69 : x142_61 = true
                                  · subst c69
                                    have H1 : (diaphonelaw05_EchoWith.l0 kj61 t113 t117 t121 (wrap64 (x15_3 + 1)) x16_3 (wrap64 (x17_3 + 1))) = some r := by rw [if_pos rfl] at H; exact H
                                    clear H
                                    have H := H1
                                    clear H1
                                    have H' := Aside0.mk H
                                    clear H
                                    go_wp2
                                    repeat (go_quiet (fail); try go_wp2)
                                    go_roundg kj61
                                    case measure => have := HJ9.out; have := HJ24.out; have := HK3.out; have := HJ40.out; have := HJ61.out; omega
                                    case rel => exact ⟨(wrap64 (x15_3 + 1)), (x16_3), (wrap64 (x17_3 + 1)), (by first | rfl | (simp; done) | (simp [*]; done)), (by first | rfl | (simp; done) | (simp [*]; done)), (by first | rfl | (simp; done) | (simp [*]; done)), H', ⟨by have := HJ9.out; have := HJ24.out; have := HK3.out; have := HJ40.out; have := HJ61.out; omega⟩, ⟨by (with_reducible repeat (first | apply Kd.R_alloc | apply Kd.R_drewN | apply Kd.R_drew)); exact HO_9.out⟩, ⟨by (with_reducible repeat (first | apply Kd.R_alloc | apply Kd.R_drewN | apply Kd.R_drew)); exact HO_11.out⟩, ⟨by (with_reducible repeat (first | apply Kd.R_alloc | apply Kd.R_drewN | apply Kd.R_drew)); exact HO_13.out⟩, ⟨by repeat (first | (with_reducible first | exact HB.out | apply below_alloc | apply pw_below_drewN | apply below_drew1) | exact HB.out)⟩⟩
                                  · replace c69 := Bool.eq_false_iff.mpr c69
                                    subst c69
                                    have H1 : (if x16_3 < (t121.length : Int) then (if 0 ≤ x16_3 then (if 0 ≤ x17_3 then (if x17_3 < (t117.length : Int) then (if (rd t121 x16_3) = (wrap64 (2 * (rd t117 x17_3))) then (diaphonelaw05_EchoWith.l0 kj61 t113 t117 t121 x15_3 (wrap64 (x16_3 + 1)) (wrap64 (x17_3 + 1))) else (some false)) else (none)) else (none)) else (none)) else (some false)) = some r := by rw [if_neg (show ¬ (false = true) by decide)] at H; exact H
                                    clear H
                                    have H := H1
                                    clear H1
                                    by_cases c70 : x16_3 < (t121.length : Int)
                                    · rw [if_pos c70] at H
                                      have c70b0 : decide (x16_3 < (t121.length : Int)) = true := decide_eq_true c70
                                      clear c70
                                      by_cases c71 : 0 ≤ x16_3
                                      · rw [if_pos c71] at H
                                        have c71b0 : decide (0 ≤ x16_3) = true := decide_eq_true c71
                                        clear c71
                                        by_cases c72 : 0 ≤ x17_3
                                        · rw [if_pos c72] at H
                                          have c72b0 : decide (0 ≤ x17_3) = true := decide_eq_true c72
                                          clear c72
                                          by_cases c73 : x17_3 < (t117.length : Int)
                                          · rw [if_pos c73] at H
                                            have c73b0 : decide (x17_3 < (t117.length : Int)) = true := decide_eq_true c73
                                            clear c73
                                            by_cases c74 : (rd t121 x16_3) = (wrap64 (2 * (rd t117 x17_3)))
                                            · rw [if_pos c74] at H
                                              have c74b0 : ((rd t121 x16_3) == (wrap64 (2 * (rd t117 x17_3)))) = true := beq_iff_eq.mpr c74
                                              have c74b1 : ((rd t121 x16_3) != (wrap64 (2 * (rd t117 x17_3)))) = false := bne_eq_false_iff_eq.mpr c74
                                              clear c74
                                              have H' := Aside0.mk H
                                              clear H
                                              obtain ⟨Ao75, co75, eo75⟩ := Kd.R_slice HO_13.out
                                              subst eo75
                                              have p134 : 0 ≤ (x16_3 : Int) := of_decide_eq_true (by first | (with_reducible assumption) | assumption)
                                              have q134 : x16_3 < (t121.length : Int) := of_decide_eq_true (by first | (with_reducible assumption) | assumption)
                                              obtain ⟨ad134, e134, hx134_0⟩ := Kd.at_int (Kd.R_reads' HO_13.out).2.2 x16_3 p134 q134
                                              cases e134
                                              replace p134 := eq_true p134
                                              replace q134 := eq_true q134
                                              have p135 : 0 ≤ (x17_3 : Int) := of_decide_eq_true (by first | (with_reducible assumption) | assumption)
                                              have q135 : x17_3 < (t117.length : Int) := of_decide_eq_true (by first | (with_reducible assumption) | assumption)
                                              obtain ⟨ad135, e135, hx135_0⟩ := Kd.at_int (Kd.R_reads' HO_11.out).2.2 x17_3 p135 q135
                                              cases e135
                                              replace p135 := eq_true p135
                                              replace q135 := eq_true q135
                                              go_wp2
                                              repeat (go_quiet (fail); try go_wp2)
                                              go_roundg kj61
                                              case measure => have := HJ9.out; have := HJ24.out; have := HK3.out; have := HJ40.out; have := HJ61.out; omega
                                              case rel => exact ⟨(x15_3), (wrap64 (x16_3 + 1)), (wrap64 (x17_3 + 1)), (by first | rfl | (simp; done) | (simp [*]; done)), (by first | rfl | (simp; done) | (simp [*]; done)), (by first | rfl | (simp; done) | (simp [*]; done)), H', ⟨by have := HJ9.out; have := HJ24.out; have := HK3.out; have := HJ40.out; have := HJ61.out; omega⟩, ⟨by (with_reducible repeat (first | apply Kd.R_alloc | apply Kd.R_drewN | apply Kd.R_drew)); exact HO_9.out⟩, ⟨by (with_reducible repeat (first | apply Kd.R_alloc | apply Kd.R_drewN | apply Kd.R_drew)); exact HO_11.out⟩, ⟨by (with_reducible repeat (first | apply Kd.R_alloc | apply Kd.R_drewN | apply Kd.R_drew)); exact HO_13.out⟩, ⟨by repeat (first | (with_reducible first | exact HB.out | apply below_alloc | apply pw_below_drewN | apply below_drew1) | exact HB.out)⟩⟩
                                            · rw [if_neg c74] at H
                                              have c74b0 : ((rd t121 x16_3) == (wrap64 (2 * (rd t117 x17_3)))) = false := beq_eq_false_iff_ne.mpr c74
                                              have c74b1 : ((rd t121 x16_3) != (wrap64 (2 * (rd t117 x17_3)))) = true := bne_iff_ne.mpr c74
                                              exact absurd (Option.some.inj H) (by rw [HRT.out]; decide)
                                          · rw [if_neg c73] at H
                                            exact absurd H (by simp)
                                        · rw [if_neg c72] at H
                                          exact absurd H (by simp)
                                      · rw [if_neg c71] at H
                                        exact absurd H (by simp)
                                    · rw [if_neg c70] at H
                                      have c70b0 : decide (x16_3 < (t121.length : Int)) = false := decide_eq_false c70
                                      clear c70
                                      exact absurd (Option.some.inj H) (by rw [HRT.out]; decide)
                      · rw [if_neg c40] at H
                        have c40b0 : decide (x17_3 < (t117.length : Int)) = false := decide_eq_false c40
                        clear c40
                        replace H := Option.bind_eq_some_iff.mp H
                        obtain ⟨t125, A780, H⟩ := H
                        replace H : (some t125) = some r := H
                        have A78 := Aside0.mk A780
                        clear A780
                        obtain rfl := Option.some.inj H
                        obtain ⟨Ao79, co79, eo79⟩ := Kd.R_slice HO_11.out
                        subst eo79
                        go_wp2_with (first | (go_at_call 16; (with_reducible refine (diaphonelaw05_sane.calls k3  t125 _ A78.out).mono ?_); rintro e w80 ⟨rfl, hb⟩; have n0_ := Aside0.mk (Kd.R_below (by (with_reducible repeat (first | apply Kd.R_alloc | apply Kd.R_drewN | apply Kd.R_drew)); exact HO_9.out) hb); have n1_ := Aside0.mk (Kd.R_below (by (with_reducible repeat (first | apply Kd.R_alloc | apply Kd.R_drewN | apply Kd.R_drew)); exact HO_11.out) hb); have n2_ := Aside0.mk (Kd.R_below (by (with_reducible repeat (first | apply Kd.R_alloc | apply Kd.R_drewN | apply Kd.R_drew)); exact HO_13.out) hb); have n3_ := Aside0.mk (below_step (by repeat (first | (with_reducible first | exact HB.out | apply below_alloc | apply pw_below_drewN | apply below_drew1) | exact HB.out)) hb); clear HO_9; clear HO_11; clear HO_13; clear HB; have HO_9 := n0_; have HO_11 := n1_; have HO_13 := n2_; have HB := n3_; clear n0_ n1_ n2_ n3_; (try clear hb); (try clear hb2); (try clear hk); (try clear hi)))
                        repeat (go_quiet (first | (go_at_call 16; (with_reducible refine (diaphonelaw05_sane.calls k3  t125 _ A78.out).mono ?_); rintro e w80 ⟨rfl, hb⟩; have n0_ := Aside0.mk (Kd.R_below (by (with_reducible repeat (first | apply Kd.R_alloc | apply Kd.R_drewN | apply Kd.R_drew)); exact HO_9.out) hb); have n1_ := Aside0.mk (Kd.R_below (by (with_reducible repeat (first | apply Kd.R_alloc | apply Kd.R_drewN | apply Kd.R_drew)); exact HO_11.out) hb); have n2_ := Aside0.mk (Kd.R_below (by (with_reducible repeat (first | apply Kd.R_alloc | apply Kd.R_drewN | apply Kd.R_drew)); exact HO_13.out) hb); have n3_ := Aside0.mk (below_step (by repeat (first | (with_reducible first | exact HB.out | apply below_alloc | apply pw_below_drewN | apply below_drew1) | exact HB.out)) hb); clear HO_9; clear HO_11; clear HO_13; clear HB; have HO_9 := n0_; have HO_11 := n1_; have HO_13 := n2_; have HB := n3_; clear n0_ n1_ n2_ n3_; (try clear hb); (try clear hb2); (try clear hk); (try clear hi))); try go_wp2_with (first | (go_at_call 16; (with_reducible refine (diaphonelaw05_sane.calls k3  t125 _ A78.out).mono ?_); rintro e w80 ⟨rfl, hb⟩; have n0_ := Aside0.mk (Kd.R_below (by (with_reducible repeat (first | apply Kd.R_alloc | apply Kd.R_drewN | apply Kd.R_drew)); exact HO_9.out) hb); have n1_ := Aside0.mk (Kd.R_below (by (with_reducible repeat (first | apply Kd.R_alloc | apply Kd.R_drewN | apply Kd.R_drew)); exact HO_11.out) hb); have n2_ := Aside0.mk (Kd.R_below (by (with_reducible repeat (first | apply Kd.R_alloc | apply Kd.R_drewN | apply Kd.R_drew)); exact HO_13.out) hb); have n3_ := Aside0.mk (below_step (by repeat (first | (with_reducible first | exact HB.out | apply below_alloc | apply pw_below_drewN | apply below_drew1) | exact HB.out)) hb); clear HO_9; clear HO_11; clear HO_13; clear HB; have HO_9 := n0_; have HO_11 := n1_; have HO_13 := n2_; have HB := n3_; clear n0_ n1_ n2_ n3_; (try clear hb); (try clear hb2); (try clear hk); (try clear hi))))
                        go_ret
                        exact ⟨by first | rfl | (simp [errW_none, errW_some] <;> rfl) | (simp [*, errW_none, errW_some] <;> rfl), by repeat (first | (with_reducible first | exact HB.out | apply below_alloc | apply pw_below_drewN | apply below_drew1) | exact HB.out)⟩
          · rw [if_neg c21] at H
            have c21b0 : (t104 == 0) = false := beq_eq_false_iff_ne.mpr c21
            have c21b1 : (t104 != 0) = true := bne_iff_ne.mpr c21
            replace H := Option.bind_eq_some_iff.mp H
            obtain ⟨t112, A810, H⟩ := H
            replace H : (some t112) = some r := H
            have A81 := Aside0.mk A810
            clear A810
            obtain rfl := Option.some.inj H
            go_wp2_with (first | (go_at_call 16; (with_reducible refine (diaphonelaw05_sane.calls kj9  t112 _ A81.out).mono ?_); rintro e w82 ⟨rfl, hb⟩; have n0_ := Aside0.mk (Kd.R_below (by (with_reducible repeat (first | apply Kd.R_alloc | apply Kd.R_drewN | apply Kd.R_drew)); exact HO_5.out) hb); have n1_ := Aside0.mk (below_step (by repeat (first | (with_reducible first | exact HB.out | apply below_alloc | apply pw_below_drewN | apply below_drew1) | exact HB.out)) hb); clear HO_5; clear HB; have HO_5 := n0_; have HB := n1_; clear n0_ n1_; (try clear hb); (try clear hb2); (try clear hk); (try clear hi)))
            repeat (go_quiet (first | (go_at_call 16; (with_reducible refine (diaphonelaw05_sane.calls kj9  t112 _ A81.out).mono ?_); rintro e w82 ⟨rfl, hb⟩; have n0_ := Aside0.mk (Kd.R_below (by (with_reducible repeat (first | apply Kd.R_alloc | apply Kd.R_drewN | apply Kd.R_drew)); exact HO_5.out) hb); have n1_ := Aside0.mk (below_step (by repeat (first | (with_reducible first | exact HB.out | apply below_alloc | apply pw_below_drewN | apply below_drew1) | exact HB.out)) hb); clear HO_5; clear HB; have HO_5 := n0_; have HB := n1_; clear n0_ n1_; (try clear hb); (try clear hb2); (try clear hk); (try clear hi))); try go_wp2_with (first | (go_at_call 16; (with_reducible refine (diaphonelaw05_sane.calls kj9  t112 _ A81.out).mono ?_); rintro e w82 ⟨rfl, hb⟩; have n0_ := Aside0.mk (Kd.R_below (by (with_reducible repeat (first | apply Kd.R_alloc | apply Kd.R_drewN | apply Kd.R_drew)); exact HO_5.out) hb); have n1_ := Aside0.mk (below_step (by repeat (first | (with_reducible first | exact HB.out | apply below_alloc | apply pw_below_drewN | apply below_drew1) | exact HB.out)) hb); clear HO_5; clear HB; have HO_5 := n0_; have HB := n1_; clear n0_ n1_; (try clear hb); (try clear hb2); (try clear hk); (try clear hi))))
            go_ret
            exact ⟨by first | rfl | (simp [errW_none, errW_some] <;> rfl) | (simp [*, errW_none, errW_some] <;> rfl), by repeat (first | (with_reducible first | exact HB.out | apply below_alloc | apply pw_below_drewN | apply below_drew1) | exact HB.out)⟩

/-- THE ONE PURE STATEMENT of diaphonelaw05_EchoWith: yours. -/
def diaphonelaw05_EchoWith.Pure : Prop := ∀ (l0 : List Int) (a1 : Int), l0.length ≤ maxLen → l0.length * 8 ≤ 140737488351232 → (∀ x ∈ l0, (Lit.int .i64 x).wf = true) → (Lit.int .i64 a1).wf = true → ∃ k, diaphonelaw05_EchoWith.f k l0 a1 = some true
theorem diaphonelaw05_EchoWith.walk (P : diaphonelaw05_EchoWith.Pure) (a0 : Option Addr) (len0 cap0 : Nat) (z0 : List Int) (a1 : Int) (w : World) (w0 : (a0 = none ∧ len0 = 0 ∧ cap0 = 0 ∧ z0 = []) ∨ ∃ x, a0 = some x ∧ len0 ≤ cap0 ∧ cap0 ≤ maxLen ∧ z0.length = cap0 ∧ (∀ i, i < z0.length → w.cell? (x.add i) = some (.int .i64 (z0.getD i 0))) ∧ ∀ n ∈ z0, (Lit.int .i64 n).wf = true) (y0 : len0 * 8 ≤ 140737488351232) (w1 : (Lit.int .i64 a1).wf = true) :
    Calls Try.prog 12 #[.slice a0 len0 cap0, .int .i64 a1] w fun e w' => e = .returned (.bool true) ∧ Below w.heap.size w w' := by
  obtain ⟨l0, rfl, hr0, hm0, hw0, hc0⟩ := ReadsInt.ofRowC w0
  obtain ⟨k, h⟩ := P l0 a1 hm0 y0 hw0 w1
  refine (diaphonelaw05_EchoWith.calls k _ _ l0 a1 true rfl w (Kd.C_of_reads (d := (0 : Int)) (h1 := fun _ => rfl) hr0) hc0 h).mono ?_
  rintro e w' ⟨rfl, hd⟩
  exact ⟨rfl, hd⟩

end Go.Proofs.Ytlbhedhbakhhlaa.Q

/- Words for the plain laws: what a printed function has as its result from some number of rounds on. -/
namespace Go.Proofs.Ytlbhedhbakhhlaa.Q
open Go.RowKit Go.Proofs.YtlbhedhbakhhlaaW.PrintWords Go.Proofs.YtlbhedhbakhhlaaW.PrintLast Go.Proofs.YtlbhedhbakhhlaaW.PrintMore

theorem Ev.pure {α : Type} (r : α) : Ev (fun _ => some r) r := ⟨0, fun _ _ => rfl⟩
theorem Ev.of {α : Type} {f : Nat → Option α} {r : α} (K : Nat) (h : ∀ k, K ≤ k → f k = some r) : Ev f r := ⟨K, h⟩
theorem Ev.step {α : Type} {f g : Nat → Option α} {r : α} (hg : Ev g r) (h : ∀ k, f (k + 1) = g k) : Ev f r := by
  obtain ⟨K, hK⟩ := hg
  refine ⟨K + 1, fun k hk => ?_⟩
  obtain ⟨j, rfl⟩ : ∃ j, k = j + 1 := ⟨k - 1, by omega⟩
  rw [h]
  exact hK j (by omega)
theorem Ev.congr {α : Type} {f g : Nat → Option α} {r : α} (hg : Ev g r) (h : ∀ k, f k = g k) : Ev f r := by
  obtain ⟨K, hK⟩ := hg
  exact ⟨K, fun k hk => by rw [h]; exact hK k hk⟩
theorem Ev.bind {α β : Type} {f : Nat → Option α} {g : Nat → α → Option β} {a : α} {r : β} (hf : Ev f a) (hg : Ev (fun k => g k a) r) : Ev (fun k => (f k).bind fun x => g k x) r := by
  obtain ⟨K, hK⟩ := hf
  obtain ⟨L, hL⟩ := hg
  refine ⟨K + L, fun k hk => ?_⟩
  show (f k).bind (fun x => g k x) = some r
  rw [hK k (by omega), Option.bind_some]
  exact hL k (by omega)
theorem Ev.some_bind {α β : Type} {a : α} {g : Nat → α → Option β} {r : β} (hg : Ev (fun k => g k a) r) : Ev (fun k => (some a).bind fun x => g k x) r := Ev.bind (Ev.pure a) hg
theorem Ev.ex {α : Type} {f : Nat → Option α} {r : α} (h : Ev f r) : ∃ k, f k = some r := by
  obtain ⟨K, hK⟩ := h
  exact ⟨K, hK K (Nat.le_refl _)⟩
theorem Ev.ite {α : Type} {c : Prop} [Decidable c] {f g : Nat → Option α} {r : α} (h1 : c → Ev f r) (h2 : ¬ c → Ev g r) : Ev (fun k => if c then f k else g k) r := by
  by_cases h : c
  · simp only [if_pos h]; exact h1 h
  · simp only [if_neg h]; exact h2 h

/-- The wrapped numbers that occur. -/
theorem wrap_nat {n : Nat} (h : n ≤ 9223372036854775807) : wrap64 (n : Int) = n := wrap_of (by omega) (by omega)
theorem wrap_succ {n : Nat} (h : n < 9223372036854775807) : wrap64 ((n : Int) + 1) = ((n + 1 : Nat) : Int) := by rw [wrap_of (by omega) (by omega)]; omega
theorem wrap_pred {n : Nat} (h : n ≤ 9223372036854775807) (h0 : 0 < n) : wrap64 ((n : Int) - 1) = ((n - 1 : Nat) : Int) := by rw [wrap_of (by omega) (by omega)]; omega
end Go.Proofs.Ytlbhedhbakhhlaa.Q

/- What Validate says, by the code and by the document: the same. -/
namespace Go.Proofs.Ytlbhedhbakhhlaa.Q
open Go.RowKit Go.Proofs.YtlbhedhbakhhlaaW.PrintWords Go.Proofs.YtlbhedhbakhhlaaW.PrintLast Go.Proofs.YtlbhedhbakhhlaaW.PrintMore

def at_ (l : List Int) (i : Nat) : Int := l.getD i 0
theorem rd_at (l : List Int) (i : Nat) : rd l (i : Int) = at_ l i := rfl
theorem rd_zero (l : List Int) : rd l 0 = at_ l 0 := rfl
theorem at_lt (l : List Int) (i : Nat) (h : i < l.length) : at_ l i = l[i] := by
  unfold at_
  rw [List.getD_eq_getElem?_getD, List.getElem?_eq_getElem h]
  rfl
/-- A place that is out of reach, or not behind the one before. -/
def badAt (l : List Int) (i : Nat) : Prop := (at_ l i < -60 ∨ 60 < at_ l i) ∨ (0 < i ∧ at_ l i ≤ at_ l (i - 1))
instance (l : List Int) (i : Nat) : Decidable (badAt l i) := inferInstanceAs (Decidable (_ ∨ _))
/-- Right places so far. -/
def goodTo (l : List Int) (n : Nat) : Prop := ∀ i, i < n → ¬ badAt l i
/-- Right cliffs. -/
structure V (l : List Int) : Prop where
  pos : 0 < l.length
  six : l.length ≤ 6
  good : goodTo l l.length
  span : at_ l (l.length - 1) - at_ l 0 ≤ 60
theorem V.range {l : List Int} (h : V l) {i : Nat} (hi : i < l.length) : -60 ≤ at_ l i ∧ at_ l i ≤ 60 := by
  have := h.good i hi
  unfold badAt at this
  omega
theorem V.lt {l : List Int} (h : V l) : ∀ {i j : Nat}, i < j → j < l.length → at_ l i < at_ l j := by
  intro i j hij
  induction j with
  | zero => omega
  | succ j ih =>
    intro hj
    have h1 := h.good (j + 1) hj
    unfold badAt at h1
    rw [Nat.add_sub_cancel] at h1
    by_cases e : i = j
    · subst e; omega
    · have := ih (by omega) (by omega)
      omega
instance (l : List Int) (n : Nat) : Decidable (goodTo l n) := inferInstanceAs (Decidable (∀ i, i < n → ¬ badAt l i))
instance (l : List Int) : Decidable (V l) := decidable_of_iff (0 < l.length ∧ l.length ≤ 6 ∧ goodTo l l.length ∧ at_ l (l.length - 1) - at_ l 0 ≤ 60)
  ⟨fun h => ⟨h.1, h.2.1, h.2.2.1, h.2.2.2⟩, fun h => ⟨h.pos, h.six, h.good, h.span⟩⟩
/-- The error. -/
def vErr (l : List Int) : Int := if l.length = 0 ∨ 6 < l.length then 3 else if V l then 0 else 1

theorem within_echo (a b c : Int) : echo_within.f a b c = some (decide (b ≤ a ∧ a ≤ c)) := by
  unfold echo_within.f
  by_cases h : a ≥ b
  · rw [if_pos h]; simp [h]
  · rw [if_neg h]; simp; omega
theorem within_ref (a b c : Int) : diaphoneref05_within.f a b c = some (decide (b ≤ a ∧ a ≤ c)) := by
  unfold diaphoneref05_within.f
  by_cases h : a ≥ b
  · rw [if_pos h]; simp [h]
  · rw [if_neg h]; simp; omega

/-- What comes behind the loop. -/
theorem v_end (l : List Int) (h0 : 0 < l.length) (h6 : l.length ≤ 6) (hg : goodTo l l.length) :
    (if wrap64 (rd l (wrap64 ((l.length : Int) - 1)) - rd l 0) > 60 then some 1 else some 0 : Option Int) = some (vErr l) := by
  have h1 : ¬ badAt l 0 := hg 0 h0
  have h2 : ¬ badAt l (l.length - 1) := hg _ (by omega)
  unfold badAt at h1 h2
  rw [wrap_pred (by omega) h0, rd_at, rd_zero, wrap_of (by omega) (by omega)]
  by_cases hs : at_ l (l.length - 1) - at_ l 0 > 60
  · have hv : vErr l = 1 := by unfold vErr; rw [if_neg (by omega), if_neg (fun hv => by have := hv.span; omega)]
    rw [if_pos hs, hv]
  · have hv : vErr l = 0 := by unfold vErr; rw [if_neg (by omega), if_pos ⟨h0, h6, hg, by omega⟩]
    rw [if_neg hs, hv]
theorem v_bad (l : List Int) (h0 : 0 < l.length) (h6 : l.length ≤ 6) (i : Nat) (hi : i < l.length) (hb : badAt l i) : vErr l = 1 := by
  unfold vErr
  rw [if_neg (by omega), if_neg (fun hv => hv.good i hi hb)]

theorem validate_l0 (l : List Int) (h0 : 0 < l.length) (h6 : l.length ≤ 6) : ∀ m i, l.length - i = m → i ≤ l.length → goodTo l i → Ev (fun k => echo_Validate.l0 k l l (l.length : Int) (i : Int)) (vErr l) := by
  intro m
  induction m with
  | zero =>
    intro i hm hi hg
    have : i = l.length := by omega
    subst this
    refine Ev.step (Ev.pure (vErr l)) fun k => ?_
    rw [echo_Validate.l0, if_neg (by omega), if_pos (by rw [wrap_pred (by omega) h0]; omega), if_pos (by rw [wrap_pred (by omega) h0]; omega), if_pos (by omega)]
    exact v_end l h0 h6 hg
  | succ m ih =>
    intro i hm hi hg
    have hlt : i < l.length := by omega
    by_cases hb : badAt l i
    · refine Ev.step (Ev.pure (vErr l)) fun k => ?_
      rw [echo_Validate.l0, if_pos (by omega), if_pos (by omega), if_pos (by omega), within_echo, Option.bind_some, v_bad l h0 h6 i hlt hb, rd_at]
      by_cases hr : -60 ≤ at_ l i ∧ at_ l i ≤ 60
      · have hb2 : 0 < i ∧ at_ l i ≤ at_ l (i - 1) := by unfold badAt at hb; omega
        rw [if_pos (by simpa using hr), if_pos (by omega), wrap_pred (by omega) hb2.1, if_pos (by omega), if_pos (by omega), rd_at, if_pos hb2.2]
      · rw [if_neg (by simpa using hr)]
    · have hb' := hb
      unfold badAt at hb'
      refine Ev.step (ih (i + 1) (by omega) (by omega) (fun j hj => by
        by_cases e : j = i
        · subst e; exact hb
        · exact hg j (by omega))) fun k => ?_
      rw [echo_Validate.l0, if_pos (by omega), if_pos (by omega), if_pos (by omega), within_echo, Option.bind_some, rd_at, if_pos (by simp; omega), wrap_succ (by omega)]
      by_cases hi0 : 0 < i
      · rw [if_pos (by omega), wrap_pred (by omega) hi0, if_pos (by omega), if_pos (by omega), rd_at, if_neg (by omega)]
      · rw [if_neg (by omega)]
theorem validate_ev (l : List Int) : Ev (fun k => echo_Validate.f k l) (vErr l) := by
  unfold echo_Validate.f
  rw [within_echo]
  refine Ev.some_bind ?_
  by_cases h : 1 ≤ l.length ∧ l.length ≤ 6
  · simp only [if_pos (show decide ((1 : Int) ≤ (l.length : Int) ∧ (l.length : Int) ≤ 6) = true by simp; omega)]
    exact validate_l0 l (by omega) h.2 l.length 0 (by omega) (by omega) (fun _ hj => by omega)
  · simp only [if_neg (show ¬ decide ((1 : Int) ≤ (l.length : Int) ∧ (l.length : Int) ≤ 6) = true by simp; omega)]
    have : vErr l = 3 := by unfold vErr; rw [if_pos (by omega)]
    rw [this]
    exact Ev.pure _

theorem rvalidate_l0 (l : List Int) (h0 : 0 < l.length) (h6 : l.length ≤ 6) : ∀ m i, l.length - i = m → i ≤ l.length → goodTo l i → Ev (fun k => diaphoneref05_Validate.l0 k l (i : Int)) (vErr l) := by
  intro m
  induction m with
  | zero =>
    intro i hm hi hg
    have : i = l.length := by omega
    subst this
    refine Ev.step (Ev.pure (vErr l)) fun k => ?_
    rw [diaphoneref05_Validate.l0, if_neg (by omega), if_pos (by rw [wrap_pred (by omega) h0]; omega), if_pos (by rw [wrap_pred (by omega) h0]; omega), if_pos (by omega)]
    exact v_end l h0 h6 hg
  | succ m ih =>
    intro i hm hi hg
    have hlt : i < l.length := by omega
    by_cases hb : badAt l i
    · refine Ev.step (Ev.pure (vErr l)) fun k => ?_
      rw [diaphoneref05_Validate.l0, if_pos (by omega), if_pos (by omega), within_ref, Option.bind_some, v_bad l h0 h6 i hlt hb, rd_at]
      by_cases hr : -60 ≤ at_ l i ∧ at_ l i ≤ 60
      · have hb2 : 0 < i ∧ at_ l i ≤ at_ l (i - 1) := by unfold badAt at hb; omega
        rw [if_pos (by simpa using hr), if_pos (by omega), wrap_pred (by omega) hb2.1, if_pos (by omega), if_pos (by omega), rd_at, if_pos (by omega)]
      · rw [if_neg (by simpa using hr)]
    · have hb' := hb
      unfold badAt at hb'
      refine Ev.step (ih (i + 1) (by omega) (by omega) (fun j hj => by
        by_cases e : j = i
        · subst e; exact hb
        · exact hg j (by omega))) fun k => ?_
      rw [diaphoneref05_Validate.l0, if_pos (by omega), if_pos (by omega), within_ref, Option.bind_some, rd_at, if_pos (by simp; omega), wrap_succ (by omega)]
      by_cases hi0 : 0 < i
      · rw [if_pos (by omega), wrap_pred (by omega) hi0, if_pos (by omega), if_pos (by omega), rd_at, if_neg (by omega)]
      · rw [if_neg (by omega)]
theorem rvalidate_ev (l : List Int) : Ev (fun k => diaphoneref05_Validate.f k l) (vErr l) := by
  unfold diaphoneref05_Validate.f
  rw [within_ref]
  refine Ev.some_bind ?_
  by_cases h : 1 ≤ l.length ∧ l.length ≤ 6
  · simp only [if_pos (show decide ((1 : Int) ≤ (l.length : Int) ∧ (l.length : Int) ≤ 6) = true by simp; omega)]
    exact rvalidate_l0 l (by omega) h.2 l.length 0 (by omega) (by omega) (fun _ hj => by omega)
  · simp only [if_neg (show ¬ decide ((1 : Int) ≤ (l.length : Int) ∧ (l.length : Int) ≤ 6) = true by simp; omega)]
    have : vErr l = 3 := by unfold vErr; rw [if_pos (by omega)]
    rw [this]
    exact Ev.pure _
theorem vErr_zero {l : List Int} (h : vErr l = 0) : V l := by
  unfold vErr at h
  split at h
  · cases h
  · split at h
    · assumption
    · cases h
theorem vErr_of {l : List Int} (h : V l) : vErr l = 0 := by
  unfold vErr
  rw [if_neg (by have := h.pos; have := h.six; omega), if_pos h]
end Go.Proofs.Ytlbhedhbakhhlaa.Q

/- The document's sort by swaps, and when two rows are the same. -/
namespace Go.Proofs.Ytlbhedhbakhhlaa.Q
open Go.RowKit Go.Proofs.YtlbhedhbakhhlaaW.PrintWords Go.Proofs.YtlbhedhbakhhlaaW.PrintLast Go.Proofs.YtlbhedhbakhhlaaW.PrintMore

theorem same_l0 (x y : List Int) (hx : x.length < 9223372036854775807) (hl : x.length = y.length) :
    ∀ m i, x.length - i = m → i ≤ x.length → Ev (fun k => diaphoneref05_SameInts.l0 k x y (i : Int)) (decide (x.drop i = y.drop i)) := by
  intro m
  induction m with
  | zero =>
    intro i hm hi
    rw [List.drop_of_length_le (by omega : x.length ≤ i), List.drop_of_length_le (by omega : y.length ≤ i)]
    refine Ev.step (Ev.pure _) fun k => ?_
    rw [diaphoneref05_SameInts.l0, if_neg (by omega)]
    rfl
  | succ m ih =>
    intro i hm hi
    have hix : i < x.length := by omega
    have hiy : i < y.length := by omega
    rw [List.drop_eq_getElem_cons hix, List.drop_eq_getElem_cons hiy]
    by_cases he : x[i] = y[i]
    · have e : decide (x[i] :: x.drop (i + 1) = y[i] :: y.drop (i + 1)) = decide (x.drop (i + 1) = y.drop (i + 1)) := by simp only [he, List.cons.injEq, true_and]
      rw [e]
      refine Ev.step (ih (i + 1) (by omega) (by omega)) fun k => ?_
      rw [diaphoneref05_SameInts.l0, if_pos (by omega), if_pos (by omega), if_pos (by omega), rd_lt x i hix, rd_lt y i hiy, if_pos he, wrap_succ (by omega)]
    · have e : decide (x[i] :: x.drop (i + 1) = y[i] :: y.drop (i + 1)) = false := by simp only [List.cons.injEq, he, false_and, decide_false]
      rw [e]
      refine Ev.step (Ev.pure _) fun k => ?_
      rw [diaphoneref05_SameInts.l0, if_pos (by omega), if_pos (by omega), if_pos (by omega), rd_lt x i hix, rd_lt y i hiy, if_neg he]
theorem same_ev (x y : List Int) (hx : x.length < 9223372036854775807) : Ev (fun k => diaphoneref05_SameInts.f k x y) (decide (x = y)) := by
  unfold diaphoneref05_SameInts.f
  by_cases hl : x.length = y.length
  · simp only [if_pos (show (x.length : Int) = (y.length : Int) by omega)]
    have := same_l0 x y hx hl x.length 0 (by omega) (by omega)
    simpa using this
  · simp only [if_neg (show ¬ (x.length : Int) = (y.length : Int) by omega)]
    have : x ≠ y := fun h => hl (by rw [h])
    simp only [this, decide_false]
    exact Ev.pure _

def at' (l : List Int) (i : Nat) : Int := l.getD i 0
theorem at'_lt {l : List Int} {i : Nat} (h : i < l.length) : at' l i = l[i] := by
  unfold at'
  rw [List.getD_eq_getElem?_getD, List.getElem?_eq_getElem h]
  rfl
theorem at'_set {l : List Int} {i j : Nat} {x : Int} (h : i < l.length) : at' (l.set i x) j = if j = i then x else at' l j := by
  unfold at'
  rw [List.getD_eq_getElem?_getD, List.getD_eq_getElem?_getD, List.getElem?_set]
  by_cases e : i = j
  · subst e; simp [h]
  · rw [if_neg e, if_neg (Ne.symm e)]

/-- Places a < b up to i are in order, where b is not j. -/
def Near (x : List Int) (i j : Nat) : Prop := ∀ a b, a < b → b ≤ i → b ≠ j → at' x a ≤ at' x b
theorem sorted_end {x l : List Int} (hp : x.Perm l) (hs : ∀ a b, a < b → b < x.length → at' x a ≤ at' x b) : x = isortI l := by
  refine List.Perm.eq_of_pairwise (le := fun a b => leI a b = true) (fun a b _ _ => leI_anti a b) ?_ (sortBy_sorted leI_trans leI_total l) (hp.trans (sortBy_perm leI l).symm)
  rw [List.pairwise_iff_getElem]
  intro a b ha hb hab
  have := hs a b hab hb
  rw [at'_lt ha, at'_lt hb] at this
  simpa [leI] using this
def swapD (x : List Int) (j : Nat) : List Int := (x.set j (at' x (j - 1))).set (j - 1) (at' x j)
theorem swapD_perm {x : List Int} {j : Nat} (h0 : 0 < j) (h : j < x.length) : (swapD x j).Perm x := by
  unfold swapD
  rw [at'_lt h, at'_lt (by omega : j - 1 < x.length)]
  exact List.set_set_perm h (by omega)
theorem swapD_at {x : List Int} {j : Nat} (h0 : 0 < j) (h : j < x.length) (a : Nat) : at' (swapD x j) a = if a = j - 1 then at' x j else if a = j then at' x (j - 1) else at' x a := by
  unfold swapD
  rw [at'_set (by simp; omega), at'_set h]

theorem sorted_l (l : List Int) (hl : l.length < 9223372036854775807) :
    ∀ m i (x : List Int), l.length - i = m → i ≤ l.length → x.Perm l → (∀ a b, a < b → b < i → at' x a ≤ at' x b) → Ev (fun k => diaphoneref05_sorted.l0 k x (i : Int)) (isortI l) := by
  intro m
  induction m with
  | zero =>
    intro i x hm hi hp hs
    have hx : x.length = l.length := hp.length_eq
    have hi' : i = l.length := by omega
    subst hi'
    rw [← sorted_end hp (fun a b hab hb => hs a b hab (by omega))]
    refine Ev.step (Ev.pure x) fun k => ?_
    rw [diaphoneref05_sorted.l0, if_neg (by omega)]
  | succ m ih =>
    intro i x hm hi hp hs
    have hx : x.length = l.length := hp.length_eq
    have key : ∀ j (x : List Int), j ≤ i → x.Perm l → Near x i j → Ev (fun k => diaphoneref05_sorted.l1 k x (i : Int) (j : Int)) (isortI l) := by
      intro j
      induction j with
      | zero =>
        intro x hj hp hn
        refine Ev.step (ih (i + 1) x (by omega) (by omega) hp (fun a b hab hb => hn a b hab (by omega) (by omega))) fun k => ?_
        rw [diaphoneref05_sorted.l1, if_neg (by omega), wrap_succ (by omega)]
      | succ j ihj =>
        intro x hj hp hn
        have hx : x.length = l.length := hp.length_eq
        by_cases hgt : at' x j > at' x (j + 1)
        · refine Ev.step (ihj (swapD x (j + 1)) (by omega) ((swapD_perm (by omega) (by omega)).trans hp) ?_) fun k => ?_
          · intro a b hab hb hne
            rw [swapD_at (by omega) (by omega), swapD_at (by omega) (by omega), Nat.add_sub_cancel, if_neg hne]
            have ha1 := hn a b hab hb
            have ha2 := hn a j
            have ha3 := hn j b
            have ha4 := hn (j + 1) b
            by_cases e1 : b = j + 1
            · subst e1
              rw [if_pos rfl]
              by_cases e2 : a = j
              · subst e2; rw [if_pos rfl]; omega
              · rw [if_neg e2, if_neg (by omega)]
                exact ha2 (by omega) (by omega) (by omega)
            · rw [if_neg e1]
              by_cases e2 : a = j
              · subst e2; rw [if_pos rfl]; exact ha4 (by omega) hb e1
              · rw [if_neg e2]
                by_cases e3 : a = j + 1
                · subst e3; rw [if_pos rfl]; exact ha3 (by omega) hb e1
                · rw [if_neg e3]; exact ha1 e1
          · rw [diaphoneref05_sorted.l1, if_pos (by omega), wrap_pred (by omega) (by omega), if_pos (by omega), if_pos (by omega), if_pos (by omega), if_pos (by omega)]
            rw [if_pos (show rd x ((j + 1 - 1 : Nat) : Int) > rd x ((j + 1 : Nat) : Int) from hgt)]
            rfl
        · refine Ev.step (ih (i + 1) x (by omega) (by omega) hp (fun a b hab hb => ?_)) fun k => ?_
          · by_cases e : b = j + 1
            · subst e
              by_cases e2 : a = j
              · subst e2; omega
              · have := hn a j (by omega) (by omega) (by omega)
                omega
            · exact hn a b hab (by omega) e
          · rw [diaphoneref05_sorted.l1, if_pos (by omega), wrap_pred (by omega) (by omega), if_pos (by omega), if_pos (by omega), if_pos (by omega), if_pos (by omega)]
            rw [if_neg (show ¬ rd x ((j + 1 - 1 : Nat) : Int) > rd x ((j + 1 : Nat) : Int) from hgt), wrap_succ (by omega)]
    refine Ev.step (key i x (Nat.le_refl _) hp (fun a b hab hb hne => hs a b hab (by omega))) fun k => ?_
    rw [diaphoneref05_sorted.l0, if_pos (by omega)]
theorem sorted_ev (l : List Int) (hl : l.length < 17592186044416) : Ev (fun k => diaphoneref05_sorted.f k l) (isortI l) := by
  unfold diaphoneref05_sorted.f
  refine Ev.some_bind ?_
  simp only [List.length_nil, Nat.zero_add, if_pos hl, List.nil_append]
  exact sorted_l l (by omega) l.length 0 l (by omega) (by omega) (.refl _) (fun a b _ hb => by omega)
end Go.Proofs.Ytlbhedhbakhhlaa.Q

/- The delays, by the code and by the document, and whether none comes twice. -/
namespace Go.Proofs.Ytlbhedhbakhhlaa.Q
open Go.RowKit Go.Proofs.YtlbhedhbakhhlaaW.PrintWords Go.Proofs.YtlbhedhbakhhlaaW.PrintLast Go.Proofs.YtlbhedhbakhhlaaW.PrintMore

/-- Few numbers, all small. -/
structure Small (c : List Int) : Prop where
  len : c.length ≤ 1000
  at_ : ∀ i, -1000000 ≤ at_ c i ∧ at_ c i ≤ 1000000
theorem at_ge (l : List Int) (i : Nat) (h : l.length ≤ i) : at_ l i = 0 := by
  unfold at_
  rw [List.getD_eq_getElem?_getD, List.getElem?_eq_none h]
  rfl
theorem V.small {c : List Int} (h : V c) : Small c where
  len := by have := h.six; omega
  at_ := fun i => by
    by_cases hi : i < c.length
    · have := h.range hi; omega
    · rw [at_ge c i (by omega)]; omega

def dif (c : List Int) (a b : Nat) : Int := at_ c a - at_ c b
/-- The delays of the first n cliffs. -/
def D (c : List Int) : Nat → List Int
  | 0 => []
  | n + 1 => D c n ++ (List.range n).map (dif c n)
theorem D_len (c : List Int) : ∀ n, n ≤ 1000 → (D c n).length ≤ n * 1000
  | 0, _ => by simp [D]
  | n + 1, h => by
    have := D_len c n (by omega)
    simp only [D, List.length_append, List.length_map, List.length_range]
    omega
theorem dif_wrap {c : List Int} (h : Small c) (a b : Nat) : wrap64 (at_ c a - at_ c b) = dif c a b := by
  have h1 := h.at_ a
  have h2 := h.at_ b
  exact wrap_of (by omega) (by omega)
theorem part_succ (c : List Int) (i j : Nat) : D c i ++ (List.range (j + 1)).map (dif c i) = (D c i ++ (List.range j).map (dif c i)) ++ [dif c i j] := by
  rw [List.range_succ, List.map_append, List.append_assoc]
  rfl
theorem part_len {c : List Int} (h : Small c) (i j : Nat) (hi : i ≤ 1000) (hj : j ≤ 1000) : (D c i ++ (List.range j).map (dif c i)).length < 17592186044416 := by
  have := D_len c i hi
  simp only [List.length_append, List.length_map, List.length_range]
  omega
theorem sort_ev (l : List Int) (h : l.length < 17592186044416) : slices_Sort_int_int.f l = some (isortI l) := by
  unfold slices_Sort_int_int.f
  rw [if_pos h]
theorem rd_take (c : List Int) (i j : Nat) (h : j < i) : rd (c.take i) (j : Int) = at_ c j := by
  show (c.take i).getD j 0 = c.getD j 0
  rw [List.getD_eq_getElem?_getD, List.getD_eq_getElem?_getD, List.getElem?_take_of_lt h]

theorem delays_l0 {c : List Int} (h : Small c) : ∀ m i, c.length - i = m → i ≤ c.length → Ev (fun k => echo_delays.l0 k c (D c i) c (c.length : Int) (i : Int)) (isortI (D c c.length)) := by
  have hlen := h.len
  intro m
  induction m with
  | zero =>
    intro i hm hi
    have : i = c.length := by omega
    subst this
    refine Ev.step (Ev.pure _) fun k => ?_
    have := D_len c c.length h.len
    rw [echo_delays.l0, if_neg (by omega), sort_ev _ (by omega)]
    rfl
  | succ m ih =>
    intro i hm hi
    have key : ∀ m' j, i - j = m' → j ≤ i → Ev (fun k => echo_delays.l1 k c (D c i ++ (List.range j).map (dif c i)) (at_ c i) c (c.length : Int) (i : Int) (c.take i) ((c.take i).length : Int) (j : Int)) (isortI (D c c.length)) := by
      intro m'
      induction m' with
      | zero =>
        intro j hm' hj
        have : j = i := by omega
        subst this
        refine Ev.step (ih (j + 1) (by omega) (by omega)) fun k => ?_
        rw [echo_delays.l1, if_neg (by rw [List.length_take]; omega), wrap_succ (by omega)]
        rfl
      | succ m' ih' =>
        intro j hm' hj
        refine Ev.step (ih' (j + 1) (by omega) (by omega)) fun k => ?_
        rw [echo_delays.l1, if_pos (by rw [List.length_take]; omega), if_pos (by omega), if_pos (by rw [List.length_take]; omega), if_pos (part_len h i j (by omega) (by omega)), rd_take c i j (by omega), dif_wrap h, wrap_succ (by omega), ← part_succ]
    refine Ev.step (key i 0 (by omega) (by omega)) fun k => ?_
    rw [echo_delays.l0, if_pos (by omega), if_pos (by omega), if_pos (by omega), if_pos (by omega), Int.toNat_natCast, rd_at]
    simp
theorem delays_ev {c : List Int} (h : Small c) : Ev (fun k => echo_delays.f k c) (isortI (D c c.length)) := by
  unfold echo_delays.f
  exact delays_l0 h c.length 0 (by omega) (by omega)

theorem rdelays_l0 {c : List Int} (h : Small c) : ∀ m i, c.length - i = m → i ≤ c.length → Ev (fun k => diaphoneref05_delays.l0 k c (D c i) (i : Int)) (isortI (D c c.length)) := by
  have hlen := h.len
  intro m
  induction m with
  | zero =>
    intro i hm hi
    have : i = c.length := by omega
    subst this
    have := D_len c c.length h.len
    refine Ev.step (Ev.bind (sorted_ev (D c c.length) (by omega)) (Ev.pure _)) fun k => ?_
    rw [diaphoneref05_delays.l0, if_neg (by omega)]
  | succ m ih =>
    intro i hm hi
    have key : ∀ m' j, i - j = m' → j ≤ i → Ev (fun k => diaphoneref05_delays.l1 k c (D c i ++ (List.range j).map (dif c i)) (i : Int) (j : Int)) (isortI (D c c.length)) := by
      intro m'
      induction m' with
      | zero =>
        intro j hm' hj
        have : j = i := by omega
        subst this
        refine Ev.step (ih (j + 1) (by omega) (by omega)) fun k => ?_
        rw [diaphoneref05_delays.l1, if_neg (by omega), wrap_succ (by omega)]
        rfl
      | succ m' ih' =>
        intro j hm' hj
        refine Ev.step (ih' (j + 1) (by omega) (by omega)) fun k => ?_
        rw [diaphoneref05_delays.l1, if_pos (by omega), if_pos (by omega), if_pos (by omega), if_pos (by omega), if_pos (by omega), if_pos (part_len h i j (by omega) (by omega)), rd_at, rd_at, dif_wrap h, wrap_succ (by omega), ← part_succ]
    refine Ev.step (key i 0 (by omega) (by omega)) fun k => ?_
    rw [diaphoneref05_delays.l0, if_pos (by omega)]
    simp
theorem rdelays_ev {c : List Int} (h : Small c) : Ev (fun k => diaphoneref05_delays.f k c) (isortI (D c c.length)) := by
  unfold diaphoneref05_delays.f
  exact rdelays_l0 h c.length 0 (by omega) (by omega)

/-- All delays, sorted. -/
def dl (c : List Int) : List Int := isortI (D c c.length)
theorem dl_len {c : List Int} (h : Small c) : (dl c).length ≤ 1000000 := by
  unfold dl isortI
  rw [(sortBy_perm leI _).length_eq]
  have := D_len c c.length h.len
  have := h.len
  omega

/-! ### None twice -/
def allKept (s : List Int) : Prop := ∀ j, j < s.length → Lib.keeps s.toArray j = true
instance (s : List Int) : Decidable (allKept s) := inferInstanceAs (Decidable (∀ j, j < s.length → Lib.keeps s.toArray j = true))
theorem compact_len (s : List Int) : (Lib.compact s).length = s.length ↔ allKept s := by
  unfold Lib.compact Lib.compactUpTo
  rw [List.length_map]
  have h : ((List.range s.length).filter (Lib.keeps s.toArray)).length = (List.range s.length).length ↔ ∀ a ∈ List.range s.length, Lib.keeps s.toArray a = true := List.length_filter_eq_length_iff
  rw [List.length_range] at h
  rw [h]
  simp [allKept]
theorem compact_le (s : List Int) : (Lib.compact s).length ≤ s.length := by
  unfold Lib.compact Lib.compactUpTo
  rw [List.length_map]
  have := List.length_filter_le (Lib.keeps s.toArray) (List.range s.length)
  simpa using this
theorem keeps_at (s : List Int) (j : Nat) (hj : j < s.length) : Lib.keeps s.toArray j = decide (j = 0 ∨ at_ s j ≠ at_ s (j - 1)) := by
  unfold Lib.keeps
  have e : ∀ i, i < s.length → s.toArray[i]! = at_ s i := fun i hi => by
    rw [getElem!_pos _ _ (by simpa using hi), at_lt s i hi]
    simp
  rw [e j hj, e (j - 1) (by omega)]
theorem isRuler_ev {c : List Int} (h : Small c) : Ev (fun k => echo_isRuler.f k c) (decide (allKept (dl c))) := by
  unfold echo_isRuler.f
  refine Ev.bind (delays_ev h) ?_
  have hl := dl_len h
  unfold dl at hl
  unfold slices_Clone_int_int.f slices_Compact_int_int.f
  simp only [if_pos (show (isortI (D c c.length)).length < 17592186044416 by omega), Option.bind_some]
  have e : (((Lib.compact (isortI (D c c.length))).length : Int) == ((isortI (D c c.length)).length : Int)) = decide (allKept (dl c)) := by
    rw [Bool.eq_iff_iff]
    simp only [beq_iff_eq, decide_eq_true_eq]
    rw [← compact_len]
    unfold dl
    omega
  rw [e]
  exact Ev.pure _
theorem ruler_l0 (s : List Int) (hs : s.length ≤ 1000000) : ∀ m i, s.length - i = m → 0 < i → (∀ j, j < i → j < s.length → Lib.keeps s.toArray j = true) → Ev (fun k => diaphoneref05_ruler.l0 k s (i : Int)) (decide (allKept s)) := by
  intro m
  induction m with
  | zero =>
    intro i hm hi hk
    have e : decide (allKept s) = true := decide_eq_true (fun j hj => hk j (by omega) hj)
    rw [e]
    refine Ev.step (Ev.pure _) fun k => ?_
    rw [diaphoneref05_ruler.l0, if_neg (by omega)]
  | succ m ih =>
    intro i hm hi hk
    by_cases he : at_ s i = at_ s (i - 1)
    · have e : decide (allKept s) = false := decide_eq_false (fun hall => by
        have := hall i (by omega)
        rw [keeps_at s i (by omega), decide_eq_true_eq] at this
        omega)
      rw [e]
      refine Ev.step (Ev.pure _) fun k => ?_
      rw [diaphoneref05_ruler.l0, if_pos (by omega), if_pos (by omega), wrap_pred (by omega) hi, if_pos (by omega), if_pos (by omega), rd_at, rd_at, if_pos he]
    · refine Ev.step (ih (i + 1) (by omega) (by omega) (fun j hj hjl => ?_)) fun k => ?_
      · by_cases e : j = i
        · subst e
          rw [keeps_at s j hjl]
          simp [he]
        · exact hk j (by omega) hjl
      · rw [diaphoneref05_ruler.l0, if_pos (by omega), if_pos (by omega), wrap_pred (by omega) hi, if_pos (by omega), if_pos (by omega), rd_at, rd_at, if_neg he, wrap_succ (by omega)]
theorem ruler_ev {c : List Int} (h : Small c) : Ev (fun k => diaphoneref05_ruler.f k c) (decide (allKept (dl c))) := by
  unfold diaphoneref05_ruler.f
  exact Ev.bind (rdelays_ev h) (ruler_l0 (dl c) (dl_len h) _ 1 rfl (by omega) (fun j hj hl => by
    have : j = 0 := by omega
    subst this
    rw [keeps_at _ _ hl]
    simp))

/-! ### Delays and IsRuler -/
theorem Delays_ev (c : List Int) : Ev (fun k => echo_Delays.f k c) (if vErr c = 0 then dl c else [], vErr c) := by
  unfold echo_Delays.f
  refine Ev.bind (validate_ev c) ?_
  by_cases h : vErr c = 0
  · simp only [if_pos h]
    rw [h]
    exact Ev.bind (delays_ev (vErr_zero h).small) (Ev.pure _)
  · simp only [if_neg h]
    exact Ev.pure _
theorem RDelays_ev (c : List Int) : Ev (fun k => diaphoneref05_Delays.f k c) (if vErr c = 0 then dl c else [], vErr c) := by
  unfold diaphoneref05_Delays.f
  refine Ev.bind (rvalidate_ev c) ?_
  by_cases h : vErr c = 0
  · simp only [if_pos h]
    rw [h]
    exact Ev.bind (rdelays_ev (vErr_zero h).small) (Ev.pure _)
  · simp only [if_neg h]
    exact Ev.pure _
theorem IsRuler_ev (c : List Int) : Ev (fun k => echo_IsRuler.f k c) (if vErr c = 0 then decide (allKept (dl c)) else false, vErr c) := by
  unfold echo_IsRuler.f
  refine Ev.bind (validate_ev c) ?_
  by_cases h : vErr c = 0
  · simp only [if_pos h]
    rw [h]
    exact Ev.bind (isRuler_ev (vErr_zero h).small) (Ev.pure _)
  · simp only [if_neg h]
    exact Ev.pure _
theorem RIsRuler_ev (c : List Int) : Ev (fun k => diaphoneref05_IsRuler.f k c) (if vErr c = 0 then decide (allKept (dl c)) else false, vErr c) := by
  unfold diaphoneref05_IsRuler.f
  refine Ev.bind (rvalidate_ev c) ?_
  by_cases h : vErr c = 0
  · simp only [if_pos h]
    rw [h]
    exact Ev.bind (ruler_ev (vErr_zero h).small) (Ev.pure _)
  · simp only [if_neg h]
    exact Ev.pure _
end Go.Proofs.Ytlbhedhbakhhlaa.Q

/- The differences of the pairs of a row: what moving and mirroring do to them. -/
namespace Go.Proofs.Ytlbhedhbakhhlaa.Q
open Go.RowKit Go.Proofs.YtlbhedhbakhhlaaW.PrintWords Go.Proofs.YtlbhedhbakhhlaaW.PrintLast Go.Proofs.YtlbhedhbakhhlaaW.PrintMore

theorem isortI_perm (l : List Int) : (isortI l).Perm l := sortBy_perm leI l
theorem isortI_sorted (l : List Int) : (isortI l).Pairwise (fun a b => a ≤ b) := by
  have := sortBy_sorted leI_trans leI_total l
  exact this.imp (fun h => by simpa [leI] using h)
theorem isortI_uniq {s l : List Int} (hp : s.Perm l) (hs : s.Pairwise (fun a b => a ≤ b)) : s = isortI l :=
  List.Perm.eq_of_pairwise (le := fun a b => a ≤ b) (fun a b _ _ h1 h2 => by omega) hs (isortI_sorted l) (hp.trans (isortI_perm l).symm)
theorem isortI_congr {l m : List Int} (h : l.Perm m) : isortI l = isortI m := isortI_uniq ((isortI_perm l).trans h) (isortI_sorted l)

/-- All differences of a later and an earlier one. -/
def P : List Int → List Int
  | [] => []
  | a :: t => t.map (fun x => x - a) ++ P t
theorem P_snoc : ∀ (l : List Int) (b : Int), (P (l ++ [b])).Perm (l.map (fun x => b - x) ++ P l)
  | [], b => by simp [P]
  | a :: t, b => by
    have ih := P_snoc t b
    simp only [List.cons_append, P, List.map_append, List.map_cons, List.map_nil, List.append_assoc]
    -- (t - a) ++ [b - a] ++ P (t ++ [b])  ~  (b - a) :: ((b - t) ++ ((t - a) ++ P t))
    have sw : ∀ X Y Z : List Int, (X ++ (Y ++ Z)).Perm (Y ++ (X ++ Z)) := fun X Y Z => by
      have := (List.perm_append_comm (l₁ := X) (l₂ := Y)).append_right Z
      simpa only [List.append_assoc] using this
    refine ((ih.append_left [b - a]).append_left _).trans ?_
    refine (sw _ [b - a] _).trans ?_
    exact (sw _ (t.map (fun x => b - x)) _).append_left [b - a]
theorem P_mirror (s : Int) : ∀ l : List Int, (P (l.reverse.map (fun x => s - x))).Perm (P l)
  | [] => by simp
  | a :: t => by
    rw [List.reverse_cons, List.map_append, List.map_cons, List.map_nil]
    refine (P_snoc _ _).trans ?_
    rw [List.map_map, P]
    refine List.Perm.append ?_ (P_mirror s t)
    have e : ((fun x => s - a - x) ∘ fun x => s - x) = fun x => x - a := by
      funext x
      simp only [Function.comp]
      omega
    rw [e, List.map_reverse]
    exact List.reverse_perm _
theorem P_shift (b : Int) : ∀ l : List Int, P (l.map (fun x => x + b)) = P l
  | [] => rfl
  | a :: t => by
    rw [List.map_cons, P, P_shift b t, P, List.map_map]
    congr 1
    apply List.map_congr_left
    intro x _
    simp only [Function.comp]
    omega
theorem P_scale (b : Int) : ∀ l : List Int, P (l.map (fun x => x * b)) = (P l).map (fun x => b * x)
  | [] => rfl
  | a :: t => by
    rw [List.map_cons, P, P_scale b t, P, List.map_append, List.map_map, List.map_map]
    congr 1
    apply List.map_congr_left
    intro x _
    simp only [Function.comp]
    rw [Int.mul_sub, Int.mul_comm x b, Int.mul_comm a b]

theorem at_append_left (l : List Int) (b : Int) (i : Nat) (h : i < l.length) : at_ (l ++ [b]) i = at_ l i := by
  rw [at_lt _ _ (by simp; omega), at_lt _ _ h, List.getElem_append_left h]
theorem at_append_last (l : List Int) (b : Int) : at_ (l ++ [b]) l.length = b := by
  rw [at_lt _ _ (by simp)]
  simp
theorem D_append (l : List Int) (b : Int) : ∀ m, m ≤ l.length → D (l ++ [b]) m = D l m
  | 0, _ => rfl
  | m + 1, h => by
    rw [D, D, D_append l b m (by omega)]
    congr 1
    apply List.map_congr_left
    intro j hj
    have := List.mem_range.1 hj
    unfold dif
    rw [at_append_left l b m (by omega), at_append_left l b j (by omega)]
theorem range_at (l : List Int) : (List.range l.length).map (fun j => at_ l j) = l := by
  apply List.ext_getElem
  · simp
  · intro i h1 h2
    simp only [List.getElem_map, List.getElem_range]
    exact at_lt l i h2
theorem D_snoc (l : List Int) (b : Int) : D (l ++ [b]) (l ++ [b]).length = D l l.length ++ l.map (fun x => b - x) := by
  rw [List.length_append, List.length_singleton, D, D_append l b _ (Nat.le_refl _)]
  congr 1
  have : (List.range l.length).map (dif (l ++ [b]) l.length) = (List.range l.length).map ((fun x => b - x) ∘ fun j => at_ l j) := by
    apply List.map_congr_left
    intro j hj
    have := List.mem_range.1 hj
    unfold dif
    rw [at_append_last, at_append_left l b j this]
    rfl
  rw [this, ← List.map_map, range_at]
theorem D_P (c : List Int) : (D c c.length).Perm (P c) := by
  have key : ∀ n (c : List Int), c.length = n → (D c c.length).Perm (P c) := by
    intro n
    induction n with
    | zero =>
      intro c h
      obtain rfl := List.length_eq_zero_iff.1 h
      exact .refl _
    | succ n ih =>
      intro c h
      have hne : c ≠ [] := fun e => by rw [e] at h; cases h
      obtain ⟨l, b, rfl⟩ : ∃ l b, c = l ++ [b] := ⟨c.dropLast, c.getLast hne, (List.dropLast_concat_getLast hne).symm⟩
      rw [D_snoc]
      refine List.Perm.trans ?_ (P_snoc l b).symm
      refine List.perm_append_comm.trans ?_
      exact (ih l (by simpa using h)).append_left _
  exact key c.length c rfl
/-- The delays by the pairs. -/
theorem dl_P (c : List Int) : dl c = isortI (P c) := isortI_congr (D_P c)
theorem dl_shift (c : List Int) (b : Int) : dl (c.map fun x => x + b) = dl c := by rw [dl_P, dl_P, P_shift]
theorem dl_mirror (c : List Int) (s : Int) : dl (c.reverse.map fun x => s - x) = dl c := by rw [dl_P, dl_P, isortI_congr (P_mirror s c)]
end Go.Proofs.Ytlbhedhbakhhlaa.Q

/- Moving, mirroring and the normal form, by the code and by the document. -/
namespace Go.Proofs.Ytlbhedhbakhhlaa.Q
open Go.RowKit Go.Proofs.YtlbhedhbakhhlaaW.PrintWords Go.Proofs.YtlbhedhbakhhlaaW.PrintLast Go.Proofs.YtlbhedhbakhhlaaW.PrintMore

theorem Small.mem {c : List Int} (h : Small c) {x : Int} (hx : x ∈ c) : -1000000 ≤ x ∧ x ≤ 1000000 := by
  obtain ⟨i, hi, rfl⟩ := List.mem_iff_getElem.1 hx
  have := h.at_ i
  rwa [at_lt c i hi] at this
theorem at_set (l : List Int) (i j : Nat) (x : Int) (h : i < l.length) : at_ (l.set i x) j = if j = i then x else at_ l j := at'_set h

theorem shift_l0 (c : List Int) (by_ : Int) (hc : c.length ≤ 1000) (hw : ∀ x ∈ c, wrap64 (x + by_) = x + by_) :
    ∀ m i, c.length - i = m → i ≤ c.length → Ev (fun k => echo_shift.l0 k by_ ((c.take i).map (fun x => x + by_) ++ c.drop i) (c.length : Int) (i : Int)) (c.map fun x => x + by_) := by
  intro m
  induction m with
  | zero =>
    intro i hm hi
    refine Ev.step (Ev.pure _) fun k => ?_
    rw [echo_shift.l0, if_neg (by omega), List.take_of_length_le (by omega), List.drop_of_length_le (by omega), List.append_nil]
  | succ m ih =>
    intro i hm hi
    have hlt : i < c.length := by omega
    refine Ev.step (ih (i + 1) (by omega) (by omega)) fun k => ?_
    have hl : ((c.take i).map (fun x => x + by_) ++ c.drop i).length = c.length := by simp; omega
    have hat : rd ((c.take i).map (fun x => x + by_) ++ c.drop i) (i : Int) = c[i] := by
      rw [rd_lt _ i (by omega), List.getElem_append_right (by simp; omega)]
      simp [Nat.min_eq_left hi]
    rw [echo_shift.l0, if_pos (by omega), if_pos (by omega), if_pos (by omega), hat, hw _ (List.getElem_mem hlt), wrap_succ (by omega), Int.toNat_natCast]
    congr 1
    have h1 : ((c.take i).map fun x => x + by_).length = i := by simp; omega
    rw [List.set_append_right _ _ (by omega), h1, Nat.sub_self, List.drop_eq_getElem_cons hlt, List.set_cons_zero, List.take_succ_eq_append_getElem hlt, List.map_append, List.append_assoc]
    rfl
theorem shift_ev (c : List Int) (by_ : Int) (hc : c.length ≤ 1000) (hw : ∀ x ∈ c, wrap64 (x + by_) = x + by_) : Ev (fun k => echo_shift.f k c by_) (c.map fun x => x + by_) := by
  unfold echo_shift.f slices_Clone_int_int.f
  rw [if_pos (by omega)]
  refine Ev.some_bind ?_
  have := shift_l0 c by_ hc hw c.length 0 (by omega) (by omega)
  simpa using this

/-- The mirror image. -/
def mir (c : List Int) : List Int := c.reverse.map fun x => at_ c 0 + at_ c (c.length - 1) - x
theorem mirrorW_mir {c : List Int} (h : Small c) (h0 : 0 < c.length) : mirrorW c = mir c := by
  unfold mirrorW mir
  apply List.map_congr_left
  intro x hx
  have h1 := h.mem (List.mem_reverse.1 hx)
  have h2 := h.at_ 0
  have h3 := h.at_ (c.length - 1)
  have := h.len
  have e1 : wrap64 (at_ c 0 + at_ c (c.length - 1)) = at_ c 0 + at_ c (c.length - 1) := wrap_of (by omega) (by omega)
  rw [wrap_pred (by omega) h0, rd_at, rd_zero, e1, wrap_of (by omega) (by omega)]
theorem mirror_f {c : List Int} (h : Small c) (h0 : 0 < c.length) : echo_mirror.f c = some (mir c) := by
  unfold echo_mirror.f
  rw [if_pos (by have := h.len; omega), mirrorW_mir h h0]
theorem mir_len (c : List Int) : (mir c).length = c.length := by simp [mir]
theorem mir_at {c : List Int} {i : Nat} (h : i < c.length) : at_ (mir c) i = at_ c 0 + at_ c (c.length - 1) - at_ c (c.length - 1 - i) := by
  rw [at_lt _ i (by rw [mir_len]; exact h)]
  unfold mir
  rw [List.getElem_map, List.getElem_reverse, ← at_lt c]
theorem ext_at {c d : List Int} (hl : c.length = d.length) (h : ∀ i, i < c.length → at_ c i = at_ d i) : c = d := by
  apply List.ext_getElem hl
  intro i h1 h2
  rw [← at_lt, ← at_lt]
  exact h i h1
theorem mir_mir {c : List Int} (h0 : 0 < c.length) : mir (mir c) = c := by
  refine ext_at (by rw [mir_len, mir_len]) fun i hi => ?_
  rw [mir_len, mir_len] at hi
  rw [mir_at (by rw [mir_len]; exact hi), mir_len, mir_at h0, mir_at (by omega), mir_at (by omega)]
  rw [show c.length - 1 - 0 = c.length - 1 by omega, show c.length - 1 - (c.length - 1) = 0 by omega, show c.length - 1 - (c.length - 1 - i) = i by omega]
  omega

theorem rmirror_l0 {c : List Int} (h : Small c) (h0 : 0 < c.length) : ∀ n, n ≤ c.length →
    Ev (fun k => diaphoneref05_mirror.l0 k c ((c.reverse.take (c.length - n)).map fun x => at_ c 0 + at_ c (c.length - 1) - x) ((n : Int) - 1)) (mir c) := by
  have hlen := h.len
  intro n
  induction n with
  | zero =>
    intro hn
    refine Ev.step (Ev.pure _) fun k => ?_
    rw [diaphoneref05_mirror.l0, if_neg (by omega), Nat.sub_zero, List.take_of_length_le (by simp)]
    rfl
  | succ n ih =>
    intro hn
    refine Ev.step (ih (by omega)) fun k => ?_
    have h2 := h.at_ 0
    have h3 := h.at_ (c.length - 1)
    have h4 := h.at_ n
    have e1 : (((n + 1 : Nat) : Int) - 1) = (n : Int) := by omega
    rw [e1, diaphoneref05_mirror.l0, if_pos (by omega), if_pos (by omega), wrap_pred (by omega) h0, if_pos (by omega), if_pos (by omega), if_pos (by omega), if_pos (by omega), if_pos (by simp; omega)]
    have e3 : wrap64 (at_ c 0 + at_ c (c.length - 1)) = at_ c 0 + at_ c (c.length - 1) := wrap_of (by omega) (by omega)
    rw [rd_at, rd_at, rd_zero, e3, wrap_of (by omega) (by omega), wrap_of (by omega) (by omega)]
    congr 1
    have e2 : c.length - n = (c.length - (n + 1)) + 1 := by omega
    rw [e2, List.take_succ_eq_append_getElem (by simp; omega), List.map_append, List.map_cons, List.map_nil, List.getElem_reverse]
    congr 2
    rw [at_lt c n (by omega)]
    congr 2
    omega
theorem rmirror_ev {c : List Int} (h : Small c) (h0 : 0 < c.length) : Ev (fun k => diaphoneref05_mirror.f k c) (mir c) := by
  unfold diaphoneref05_mirror.f
  have := rmirror_l0 h h0 c.length (Nat.le_refl _)
  rw [wrap_of (by have := h.len; omega) (by have := h.len; omega)]
  simpa using this

theorem before_l0 (x y : List Int) (hx : x.length ≤ 1000) (hl : x.length = y.length) :
    ∀ m i, x.length - i = m → i ≤ x.length → Ev (fun k => diaphoneref05_before.l0 k x y (i : Int)) (decide (lexI (x.drop i) (y.drop i) ≤ 0)) := by
  intro m
  induction m with
  | zero =>
    intro i hm hi
    rw [List.drop_of_length_le (by omega : x.length ≤ i), List.drop_of_length_le (by omega : y.length ≤ i)]
    refine Ev.step (Ev.pure _) fun k => ?_
    rw [diaphoneref05_before.l0, if_neg (by omega)]
    rfl
  | succ m ih =>
    intro i hm hi
    have hix : i < x.length := by omega
    have hiy : i < y.length := by omega
    rw [List.drop_eq_getElem_cons hix, List.drop_eq_getElem_cons hiy]
    by_cases he : x[i] = y[i]
    · have eL : lexI (x[i] :: x.drop (i + 1)) (y[i] :: y.drop (i + 1)) = lexI (x.drop (i + 1)) (y.drop (i + 1)) := by rw [lexI, if_neg (by omega), if_neg (by omega)]
      rw [eL]
      refine Ev.step (ih (i + 1) (by omega) (by omega)) fun k => ?_
      rw [diaphoneref05_before.l0, if_pos (by omega), if_pos (by omega), if_pos (by omega), rd_lt x i hix, rd_lt y i hiy, if_pos he, wrap_succ (by omega)]
    · have eL : lexI (x[i] :: x.drop (i + 1)) (y[i] :: y.drop (i + 1)) = if x[i] < y[i] then -1 else 1 := by
        rw [lexI]
        by_cases h1 : x[i] < y[i]
        · rw [if_pos h1, if_pos h1]
        · rw [if_neg h1, if_neg h1, if_pos (by omega)]
      rw [eL]
      refine Ev.step (Ev.pure _) fun k => ?_
      rw [diaphoneref05_before.l0, if_pos (by omega), if_pos (by omega), if_pos (by omega), rd_lt x i hix, rd_lt y i hiy, if_neg he]
      by_cases h1 : x[i] < y[i]
      · simp [h1]
      · simp [h1]
theorem before_ev (x y : List Int) (hx : x.length ≤ 1000) (hl : x.length = y.length) : Ev (fun k => diaphoneref05_before.f k x y) (decide (lexI x y ≤ 0)) := by
  unfold diaphoneref05_before.f
  have := before_l0 x y hx hl x.length 0 (by omega) (by omega)
  simpa using this

/-- Moved to 0. -/
def zero (c : List Int) : List Int := c.map fun x => x + -(at_ c 0)
/-- The normal form. -/
def nf (c : List Int) : List Int := if lexI (mir (zero c)) (zero c) < 0 then mir (zero c) else zero c
theorem zero_len (c : List Int) : (zero c).length = c.length := by simp [zero]
theorem map_at (c : List Int) (f : Int → Int) (i : Nat) (h : i < c.length) : at_ (c.map f) i = f (at_ c i) := by
  rw [at_lt _ i (by simpa using h), at_lt c i h]
  simp
theorem zero_at {c : List Int} {i : Nat} (h : i < c.length) : at_ (zero c) i = at_ c i - at_ c 0 := by
  unfold zero
  rw [map_at c _ i h]
  omega
theorem V.zero_small {c : List Int} (h : V c) : Small (zero c) where
  len := by rw [zero_len]; have := h.six; omega
  at_ := fun i => by
    by_cases hi : i < c.length
    · rw [zero_at hi]
      have := h.range hi
      have := h.range h.pos
      omega
    · rw [at_ge _ _ (by rw [zero_len]; omega)]; omega
theorem nf_len (c : List Int) : (nf c).length = c.length := by
  unfold nf
  split
  · rw [mir_len, zero_len]
  · rw [zero_len]
theorem normal_ev {c : List Int} (h : V c) : Ev (fun k => echo_normal.f k c) (nf c) := by
  have h6 := h.six
  have h0 := h.pos
  have hr := h.range h0
  unfold echo_normal.f
  simp only [if_pos (show (0 : Int) < (c.length : Int) by omega), rd_zero]
  rw [wrap_of (by omega) (by omega)]
  refine Ev.bind (shift_ev c _ (by omega) (fun x hx => ?_)) ?_
  · have := h.small.mem hx
    exact wrap_of (by omega) (by omega)
  · show Ev (fun k => (echo_mirror.f (zero c)).bind fun t105 => ((slices_Compare_int_int.f k t105 (zero c)).bind fun t108 => (if t108 < 0 then (some t105) else (some (zero c))))) _
    rw [mirror_f h.zero_small (by rw [zero_len]; exact h0)]
    refine Ev.some_bind ?_
    refine Ev.bind (Ev.of ((mir (zero c)).length + 1) (fun k hk => compare_ev _ _ (by rw [mir_len, zero_len]; omega) k (by omega))) ?_
    unfold nf
    by_cases hlt : lexI (mir (zero c)) (zero c) < 0
    · simp only [if_pos hlt]; exact Ev.pure _
    · simp only [if_neg hlt]; exact Ev.pure _
theorem rnormal_l0 {c : List Int} (h : V c) : ∀ m i, c.length - i = m → i ≤ c.length → Ev (fun k => diaphoneref05_normal.l0 k c ((zero c).take i) (i : Int)) (nf c) := by
  have h6 := h.six
  have h0 := h.pos
  have hzl := zero_len c
  intro m
  induction m with
  | zero =>
    intro i hm hi
    have : i = c.length := by omega
    subst this
    rw [List.take_of_length_le (by omega)]
    refine Ev.step (g := fun k => (diaphoneref05_mirror.f k (zero c)).bind fun t106 => ((diaphoneref05_before.f k (zero c) t106).bind fun t109 => (if t109 = true then (some (zero c)) else ((diaphoneref05_mirror.f k (zero c)).bind fun t110 => (some t110))))) ?_ fun k => ?_
    · refine Ev.bind (rmirror_ev h.zero_small (by omega)) ?_
      refine Ev.bind (before_ev _ _ (by omega) (by rw [mir_len])) ?_
      have ha := lexI_anti (mir (zero c)) (zero c)
      unfold nf
      by_cases hlt : lexI (mir (zero c)) (zero c) < 0
      · rw [if_pos hlt]
        simp only [decide_eq_true_eq, if_neg (show ¬ lexI (zero c) (mir (zero c)) ≤ 0 by omega)]
        exact Ev.bind (rmirror_ev h.zero_small (by omega)) (Ev.pure _)
      · rw [if_neg hlt]
        simp only [decide_eq_true_eq, if_pos (show lexI (zero c) (mir (zero c)) ≤ 0 by omega)]
        exact Ev.pure _
    · rw [diaphoneref05_normal.l0, if_neg (by omega)]
  | succ m ih =>
    intro i hm hi
    have hlt : i < c.length := by omega
    refine Ev.step (ih (i + 1) (by omega) (by omega)) fun k => ?_
    have hr := h.range hlt
    have hr0 := h.range h0
    rw [diaphoneref05_normal.l0, if_pos (by omega), if_pos (by omega), if_pos (by omega), if_pos (by simp; omega), rd_at, rd_zero, wrap_of (by omega) (by omega), wrap_succ (by omega)]
    congr 1
    rw [List.take_succ_eq_append_getElem (by omega), ← at_lt, zero_at hlt]
theorem rnormal_ev {c : List Int} (h : V c) : Ev (fun k => diaphoneref05_normal.f k c) (nf c) := by
  unfold diaphoneref05_normal.f
  have := rnormal_l0 h c.length 0 (by omega) (by omega)
  simpa using this

/-! ### Normal, Same, Alike -/
theorem Normal_ev (c : List Int) : Ev (fun k => echo_Normal.f k c) (if vErr c = 0 then nf c else [], vErr c) := by
  unfold echo_Normal.f
  refine Ev.bind (validate_ev c) ?_
  by_cases h : vErr c = 0
  · simp only [if_pos h]
    rw [h]
    exact Ev.bind (normal_ev (vErr_zero h)) (Ev.pure _)
  · simp only [if_neg h]
    exact Ev.pure _
theorem RNormal_ev (c : List Int) : Ev (fun k => diaphoneref05_Normal.f k c) (if vErr c = 0 then nf c else [], vErr c) := by
  unfold diaphoneref05_Normal.f
  refine Ev.bind (rvalidate_ev c) ?_
  by_cases h : vErr c = 0
  · simp only [if_pos h]
    rw [h]
    exact Ev.bind (rnormal_ev (vErr_zero h)) (Ev.pure _)
  · simp only [if_neg h]
    exact Ev.pure _
def bErr (c d : List Int) : Int := if vErr c = 0 then vErr d else vErr c
theorem bErr_zero {c d : List Int} (h : bErr c d = 0) : V c ∧ V d := by
  unfold bErr at h
  split at h
  · rename_i h1
    exact ⟨vErr_zero h1, vErr_zero h⟩
  · contradiction
theorem bErr_of {c d : List Int} (h : V c) (h' : V d) : bErr c d = 0 := by
  unfold bErr
  rw [if_pos (vErr_of h), vErr_of h']
theorem both_ev (c d : List Int) : Ev (fun k => echo_both.f k c d) (bErr c d) := by
  unfold echo_both.f bErr
  refine Ev.bind (validate_ev c) ?_
  by_cases h : vErr c = 0
  · simp only [if_pos h]
    exact Ev.bind (validate_ev d) (Ev.pure _)
  · simp only [if_neg h]
    exact Ev.pure _
theorem two_ev (c d : List Int) : Ev (fun k => diaphoneref05_two.f k c d) (bErr c d) := by
  unfold diaphoneref05_two.f bErr
  refine Ev.bind (rvalidate_ev c) ?_
  by_cases h : vErr c = 0
  · simp only [if_pos h]
    exact Ev.bind (rvalidate_ev d) (Ev.pure _)
  · simp only [if_neg h]
    exact Ev.pure _
theorem eq_ev (x y : List Int) (hx : x.length ≤ 1000000) : Ev (fun k => slices_Equal_int_int.f k x y) (decide (x = y)) := Ev.of (x.length + 1) (fun k hk => equal_ev x y (by omega) k (by omega))
theorem Same_ev (c d : List Int) : Ev (fun k => echo_Same.f k c d) (if bErr c d = 0 then decide (dl c = dl d) else false, bErr c d) := by
  unfold echo_Same.f
  refine Ev.bind (both_ev c d) ?_
  by_cases h : bErr c d = 0
  · simp only [if_pos h]
    rw [h]
    obtain ⟨h1, h2⟩ := bErr_zero h
    exact Ev.bind (delays_ev h1.small) (Ev.bind (delays_ev h2.small) (Ev.bind (eq_ev _ _ (dl_len h1.small)) (Ev.pure _)))
  · simp only [if_neg h]
    exact Ev.pure _
theorem RSame_ev (c d : List Int) : Ev (fun k => diaphoneref05_Same.f k c d) (if bErr c d = 0 then decide (dl c = dl d) else false, bErr c d) := by
  unfold diaphoneref05_Same.f
  refine Ev.bind (two_ev c d) ?_
  by_cases h : bErr c d = 0
  · simp only [if_pos h]
    rw [h]
    obtain ⟨h1, h2⟩ := bErr_zero h
    exact Ev.bind (rdelays_ev h1.small) (Ev.bind (rdelays_ev h2.small) (Ev.bind (same_ev _ _ (by have := dl_len h1.small; unfold dl at this; omega)) (Ev.pure _)))
  · simp only [if_neg h]
    exact Ev.pure _
theorem Alike_ev (c d : List Int) : Ev (fun k => echo_Alike.f k c d) (if bErr c d = 0 then decide (nf c = nf d) else false, bErr c d) := by
  unfold echo_Alike.f
  refine Ev.bind (both_ev c d) ?_
  by_cases h : bErr c d = 0
  · simp only [if_pos h]
    rw [h]
    obtain ⟨h1, h2⟩ := bErr_zero h
    exact Ev.bind (normal_ev h1) (Ev.bind (normal_ev h2) (Ev.bind (eq_ev _ _ (by rw [nf_len]; have := h1.six; omega)) (Ev.pure _)))
  · simp only [if_neg h]
    exact Ev.pure _
theorem RAlike_ev (c d : List Int) : Ev (fun k => diaphoneref05_Alike.f k c d) (if bErr c d = 0 then decide (nf c = nf d) else false, bErr c d) := by
  unfold diaphoneref05_Alike.f
  refine Ev.bind (two_ev c d) ?_
  by_cases h : bErr c d = 0
  · simp only [if_pos h]
    rw [h]
    obtain ⟨h1, h2⟩ := bErr_zero h
    exact Ev.bind (rnormal_ev h1) (Ev.bind (rnormal_ev h2) (Ev.bind (same_ev _ _ (by rw [nf_len]; have := h1.six; omega)) (Ev.pure _)))
  · simp only [if_neg h]
    exact Ev.pure _

/-! ### The delays of the normal form -/
theorem dl_zero (c : List Int) : dl (zero c) = dl c := dl_shift c _
theorem dl_mir (c : List Int) : dl (mir c) = dl c := dl_mirror c _
theorem dl_nf (c : List Int) : dl (nf c) = dl c := by
  unfold nf
  split
  · rw [dl_mir, dl_zero]
  · rw [dl_zero]
theorem alike_same {c d : List Int} (h : nf c = nf d) : dl c = dl d := by rw [← dl_nf c, h, dl_nf]
end Go.Proofs.Ytlbhedhbakhhlaa.Q

/- The mirror image: right cliffs again, alike, with the same delays; by the code and by the document. -/
namespace Go.Proofs.Ytlbhedhbakhhlaa.Q
open Go.RowKit Go.Proofs.YtlbhedhbakhhlaaW.PrintWords Go.Proofs.YtlbhedhbakhhlaaW.PrintLast Go.Proofs.YtlbhedhbakhhlaaW.PrintMore

theorem V.le {c : List Int} (h : V c) {i j : Nat} (hij : i ≤ j) (hj : j < c.length) : at_ c i ≤ at_ c j := by
  by_cases e : i = j
  · subst e; omega
  · have := h.lt (i := i) (j := j) (by omega) hj
    omega
theorem V.of_lt {c : List Int} (h0 : 0 < c.length) (h6 : c.length ≤ 6) (hr : ∀ i, i < c.length → -60 ≤ at_ c i ∧ at_ c i ≤ 60) (hs : ∀ i, i + 1 < c.length → at_ c i < at_ c (i + 1)) (hp : at_ c (c.length - 1) - at_ c 0 ≤ 60) : V c := by
  refine ⟨h0, h6, fun i hi hb => ?_, hp⟩
  have h1 := hr i hi
  unfold badAt at hb
  by_cases e : 0 < i
  · have := hs (i - 1) (by omega)
    rw [show i - 1 + 1 = i by omega] at this
    omega
  · omega
theorem V.mir {c : List Int} (h : V c) : V (mir c) := by
  have h0 := h.pos
  have h6 := h.six
  refine V.of_lt (by rw [mir_len]; exact h0) (by rw [mir_len]; exact h6) (fun i hi => ?_) (fun i hi => ?_) ?_
  · rw [mir_len] at hi
    rw [mir_at hi]
    have a := h.le (i := 0) (j := c.length - 1 - i) (by omega) (by omega)
    have b := h.le (i := c.length - 1 - i) (j := c.length - 1) (by omega) (by omega)
    have d := h.range h0
    have e := h.range (i := c.length - 1) (by omega)
    omega
  · rw [mir_len] at hi
    rw [mir_at (by omega), mir_at hi]
    have := h.lt (i := c.length - 1 - (i + 1)) (j := c.length - 1 - i) (by omega) (by omega)
    omega
  · rw [mir_len, mir_at (by omega), mir_at h0, show c.length - 1 - 0 = c.length - 1 by omega, show c.length - 1 - (c.length - 1) = 0 by omega]
    have := h.span
    omega
theorem Mirror_ev (c : List Int) : Ev (fun k => echo_Mirror.f k c) (if vErr c = 0 then mir c else [], vErr c) := by
  unfold echo_Mirror.f
  refine Ev.bind (validate_ev c) ?_
  by_cases h : vErr c = 0
  · simp only [if_pos h]
    rw [h, mirror_f (vErr_zero h).small (vErr_zero h).pos]
    exact Ev.pure _
  · simp only [if_neg h]
    exact Ev.pure _
theorem RMirror_ev (c : List Int) : Ev (fun k => diaphoneref05_Mirror.f k c) (if vErr c = 0 then mir c else [], vErr c) := by
  unfold diaphoneref05_Mirror.f
  refine Ev.bind (rvalidate_ev c) ?_
  by_cases h : vErr c = 0
  · simp only [if_pos h]
    rw [h]
    exact Ev.bind (rmirror_ev (vErr_zero h).small (vErr_zero h).pos) (Ev.pure _)
  · simp only [if_neg h]
    exact Ev.pure _
theorem mir_zero {c : List Int} (h0 : 0 < c.length) : zero (mir c) = mir (zero c) := by
  refine ext_at (by rw [zero_len, mir_len, mir_len, zero_len]) fun i hi => ?_
  rw [zero_len, mir_len] at hi
  rw [zero_at (by rw [mir_len]; exact hi), mir_at hi, mir_at h0, mir_at (by rw [zero_len]; exact hi), zero_len, zero_at h0, zero_at (by omega), zero_at (by omega), show c.length - 1 - 0 = c.length - 1 by omega]
  omega
theorem nf_mir {c : List Int} (h0 : 0 < c.length) : nf (mir c) = nf c := by
  have hz : 0 < (zero c).length := by rw [zero_len]; exact h0
  unfold nf
  rw [mir_zero h0, mir_mir hz]
  have ha := lexI_anti (mir (zero c)) (zero c)
  by_cases h1 : lexI (zero c) (mir (zero c)) < 0
  · rw [if_pos h1, if_neg (by omega)]
  · rw [if_neg h1]
    by_cases h2 : lexI (mir (zero c)) (zero c) < 0
    · rw [if_pos h2]
    · rw [if_neg h2]
      exact lexI_zero _ _ (by omega)
end Go.Proofs.Ytlbhedhbakhhlaa.Q

/- Twice the distances from a ship, by the code and by the document. -/
namespace Go.Proofs.Ytlbhedhbakhhlaa.Q
open Go.RowKit Go.Proofs.YtlbhedhbakhhlaaW.PrintWords Go.Proofs.YtlbhedhbakhhlaaW.PrintLast Go.Proofs.YtlbhedhbakhhlaaW.PrintMore

def far2 (s x : Int) : Int := 2 * mx (x - s) (s - x)
theorem far2_wrap {s x : Int} (hs : -1000 ≤ s ∧ s ≤ 1000) (hx : -1000000 ≤ x ∧ x ≤ 1000000) : wrap64 (2 * mx (wrap64 (x - s)) (wrap64 (s - x))) = far2 s x := by
  rw [wrap_of (show -9223372036854775808 ≤ x - s by omega) (by omega), wrap_of (show -9223372036854775808 ≤ s - x by omega) (by omega)]
  unfold far2 mx
  split <;> exact wrap_of (by omega) (by omega)
/-- What is heard at s. -/
def hd (c : List Int) (s : Int) : List Int := isortI (c.map (far2 s))
def hErr (c : List Int) (s : Int) : Int := if vErr c = 0 then (if -1000 ≤ s ∧ s ≤ 1000 then 0 else 1) else vErr c
theorem hd_len (c : List Int) (s : Int) : (hd c s).length = c.length := by
  unfold hd
  rw [(isortI_perm _).length_eq, List.length_map]
theorem map_take_succ (c : List Int) (f : Int → Int) (i : Nat) (h : i < c.length) : (c.take i).map f ++ [f (at_ c i)] = (c.take (i + 1)).map f := by
  rw [List.take_succ_eq_append_getElem h, List.map_append, at_lt c i h]
  rfl
theorem heard_l0 {c : List Int} {s : Int} (h : V c) (hs : -1000 ≤ s ∧ s ≤ 1000) : ∀ m i, c.length - i = m → i ≤ c.length → Ev (fun k => echo_Heard.l0 k s ((c.take i).map (far2 s)) c (c.length : Int) (i : Int)) (hd c s, 0) := by
  have h6 := h.six
  intro m
  induction m with
  | zero =>
    intro i hm hi
    rw [List.take_of_length_le (by omega)]
    refine Ev.step (Ev.pure _) fun k => ?_
    rw [echo_Heard.l0, if_neg (by omega), sort_ev _ (by simp; omega)]
    rfl
  | succ m ih =>
    intro i hm hi
    have hlt : i < c.length := by omega
    have hr := h.range hlt
    refine Ev.step (ih (i + 1) (by omega) (by omega)) fun k => ?_
    rw [echo_Heard.l0, if_pos (by omega), if_pos (by omega), if_pos (by omega), if_pos (by simp; omega), rd_at, far2_wrap hs (by omega), wrap_succ (by omega), map_take_succ c _ i hlt]
theorem Heard_ev (c : List Int) (s : Int) : Ev (fun k => echo_Heard.f k c s) (if hErr c s = 0 then hd c s else [], hErr c s) := by
  unfold echo_Heard.f hErr
  refine Ev.bind (validate_ev c) ?_
  by_cases h : vErr c = 0
  · simp only [if_pos h]
    rw [within_echo]
    refine Ev.some_bind ?_
    by_cases hs : -1000 ≤ s ∧ s ≤ 1000
    · simp only [decide_eq_true hs, if_true, if_pos hs]
      have := heard_l0 (vErr_zero h) hs c.length 0 (by omega) (by omega)
      simpa using this
    · simp only [decide_eq_false hs, Bool.false_eq_true, if_false, if_neg hs]
      exact Ev.pure _
  · simp only [if_neg h]
    exact Ev.pure _
theorem rheard_l0 {c : List Int} {s : Int} (h : V c) (hs : -1000 ≤ s ∧ s ≤ 1000) : ∀ m i, c.length - i = m → i ≤ c.length → Ev (fun k => diaphoneref05_Heard.l0 k c s ((c.take i).map (far2 s)) (i : Int)) (hd c s, 0) := by
  have h6 := h.six
  intro m
  induction m with
  | zero =>
    intro i hm hi
    rw [List.take_of_length_le (by omega)]
    refine Ev.step (g := fun k => (diaphoneref05_sorted.f k (c.map (far2 s))).bind fun t108 => (some (t108, 0))) (Ev.bind (sorted_ev (c.map (far2 s)) (by simp; omega)) (Ev.pure _)) fun k => ?_
    rw [diaphoneref05_Heard.l0, if_neg (by omega)]
  | succ m ih =>
    intro i hm hi
    have hlt : i < c.length := by omega
    have hr := h.range hlt
    refine Ev.step (ih (i + 1) (by omega) (by omega)) fun k => ?_
    rw [diaphoneref05_Heard.l0, if_pos (by omega), if_pos (by omega), if_pos (by simp; omega), rd_at, far2_wrap hs (by omega), wrap_succ (by omega), map_take_succ c _ i hlt]
theorem RHeard_ev (c : List Int) (s : Int) : Ev (fun k => diaphoneref05_Heard.f k c s) (if hErr c s = 0 then hd c s else [], hErr c s) := by
  unfold diaphoneref05_Heard.f hErr
  refine Ev.bind (rvalidate_ev c) ?_
  by_cases h : vErr c = 0
  · simp only [if_pos h]
    rw [within_ref]
    refine Ev.some_bind ?_
    by_cases hs : -1000 ≤ s ∧ s ≤ 1000
    · simp only [decide_eq_true hs, if_true, if_pos hs]
      have := rheard_l0 (vErr_zero h) hs c.length 0 (by omega) (by omega)
      simpa using this
    · simp only [decide_eq_false hs, Bool.false_eq_true, if_false, if_neg hs]
      exact Ev.pure _
  · simp only [if_neg h]
    exact Ev.pure _
theorem mx_comm (a b : Int) : mx a b = mx b a := by
  unfold mx
  split <;> split <;> omega
theorem hd_mir {c : List Int} (s : Int) : hd (mir c) (at_ c 0 + at_ c (c.length - 1) - s) = hd c s := by
  unfold hd
  apply isortI_congr
  unfold mir
  rw [List.map_map, List.map_reverse]
  refine (List.reverse_perm _).trans ?_
  have e : (far2 (at_ c 0 + at_ c (c.length - 1) - s) ∘ fun x => at_ c 0 + at_ c (c.length - 1) - x) = far2 s := by
    funext x
    simp only [Function.comp, far2]
    rw [mx_comm]
    congr 2 <;> omega
  rw [e]
end Go.Proofs.Ytlbhedhbakhhlaa.Q

/- Of equal neighbours one stays: what remains of a sorted list is each element once. -/
namespace Go.Proofs.Ytlbhedhbakhhlaa.Q
open Go.RowKit
section
variable {α : Type} [Inhabited α] [DecidableEq α]
theorem upto_mem (d : Array α) : ∀ m, m ≤ d.size → ∀ x, x ∈ Lib.compactUpTo d m ↔ ∃ j, j < m ∧ d[j]! = x
  | 0, _, x => by simp [Lib.compactUpTo]
  | m + 1, h, x => by
    rw [Lib.compactUpTo_succ, List.mem_append, upto_mem d m (by omega) x]
    constructor
    · rintro (⟨j, h1, h2⟩ | hx)
      · exact ⟨j, by omega, h2⟩
      · split at hx
        · exact ⟨m, by omega, (List.mem_singleton.1 hx).symm⟩
        · cases hx
    · rintro ⟨j, h1, h2⟩
      by_cases e : j = m
      · subst e
        by_cases hk : Lib.keeps d j = true
        · rw [if_pos hk]; exact .inr (List.mem_singleton.2 h2.symm)
        · unfold Lib.keeps at hk
          simp only [decide_eq_true_eq, not_or, ne_eq, Decidable.not_not] at hk
          exact .inl ⟨j - 1, by omega, by rw [← hk.2]; exact h2⟩
      · exact .inl ⟨j, by omega, h2⟩
theorem compact_mem (zs : List α) (x : α) : x ∈ Lib.compact zs ↔ x ∈ zs := by
  unfold Lib.compact
  rw [upto_mem _ _ (by simp)]
  constructor
  · rintro ⟨j, h1, rfl⟩
    rw [getElem!_pos _ _ (by simpa using h1)]
    simp
  · intro h
    obtain ⟨j, hj, rfl⟩ := List.mem_iff_getElem.1 h
    exact ⟨j, hj, by rw [getElem!_pos _ _ (by simpa using hj)]; simp⟩
theorem upto_nodup {le : α → α → Prop} (hanti : ∀ a b, le a b → le b a → a = b) (zs : List α) (hs : zs.Pairwise le) : ∀ m, m ≤ zs.length → (Lib.compactUpTo zs.toArray m).Nodup
  | 0, _ => by simp [Lib.compactUpTo]
  | m + 1, h => by
    rw [Lib.compactUpTo_succ, List.nodup_append]
    refine ⟨upto_nodup hanti zs hs m (by omega), by split <;> simp, ?_⟩
    intro a ha b hb he
    subst he
    obtain ⟨j, hj, hja⟩ := (upto_mem _ _ (by simp; omega) a).1 ha
    split at hb
    · rename_i hk
      have hb' := List.mem_singleton.1 hb
      have hg : ∀ i (hi : i < zs.length), zs.toArray[i]! = zs[i] := fun i hi => by rw [getElem!_pos _ _ (by simpa using hi)]; simp
      have hp := List.pairwise_iff_getElem.1 hs
      unfold Lib.keeps at hk
      simp only [decide_eq_true_eq] at hk
      rcases hk with hk | hk
      · omega
      · apply hk
        rw [hg j (by omega)] at hja
        rw [hg m (by omega)] at hb' hk ⊢
        rw [hg (m - 1) (by omega)] at hk ⊢
        by_cases e : j = m - 1
        · subst e; rw [hja, ← hb']
        · have h1 := hp j (m - 1) (by omega) (by omega) (by omega)
          have h2 := hp (m - 1) m (by omega) (by omega) (by omega)
          rw [hja, hb'] at h1
          exact hanti _ _ h1 h2
    · cases hb
theorem compact_nodup {le : α → α → Prop} (hanti : ∀ a b, le a b → le b a → a = b) (zs : List α) (hs : zs.Pairwise le) : (Lib.compact zs).Nodup := upto_nodup hanti zs hs zs.length (Nat.le_refl _)
theorem upto_sub (zs : List α) : ∀ m, m ≤ zs.length → (Lib.compactUpTo zs.toArray m).Sublist (zs.take m)
  | 0, _ => by simp [Lib.compactUpTo]
  | m + 1, h => by
    rw [Lib.compactUpTo_succ, List.take_succ_eq_append_getElem (by omega)]
    refine List.Sublist.append (upto_sub zs m (by omega)) ?_
    split
    · rw [getElem!_pos _ _ (by simp; omega)]
      simp
    · exact List.nil_sublist _
theorem compact_sub (zs : List α) : (Lib.compact zs).Sublist zs := by
  have := upto_sub zs zs.length (Nat.le_refl _)
  rw [List.take_length] at this
  exact this
end
end Go.Proofs.Ytlbhedhbakhhlaa.Q

/- The chapter's examples hold. -/
namespace Go.Proofs.Ytlbhedhbakhhlaa.Q
open Go.RowKit Go.Proofs.YtlbhedhbakhhlaaW.PrintWords Go.Proofs.YtlbhedhbakhhlaaW.PrintLast Go.Proofs.YtlbhedhbakhhlaaW.PrintMore

theorem Ev.mono {α : Type} {f : Nat → Option α} {r : α} (hm : ∀ k, LeO (f k) (f (k + 1))) (K : Nat) (h : f K = some r) : Ev f r := by
  refine ⟨K, fun k hk => ?_⟩
  induction k with
  | zero => obtain rfl : K = 0 := by omega
            exact h
  | succ k ih =>
    by_cases e : K = k + 1
    · rw [← e]; exact h
    · exact hm k r (ih (by omega))
set_option maxRecDepth 100000 in
theorem sane_60 : diaphonelaw05_sane.f 60 = some true := by kernel_rfl
theorem sane_ev : Ev (fun k => diaphonelaw05_sane.f k) true := Ev.mono diaphonelaw05_sane.mono 60 sane_60
theorem sane_end : Ev (fun k => (diaphonelaw05_sane.f k).bind fun t => some t) true := Ev.bind sane_ev (Ev.pure _)
end Go.Proofs.Ytlbhedhbakhhlaa.Q

/- The errors of claimed delays and of CheckCliffs, by the code and by the document. -/
namespace Go.Proofs.Ytlbhedhbakhhlaa.Q
open Go.RowKit Go.Proofs.YtlbhedhbakhhlaaW.PrintWords Go.Proofs.YtlbhedhbakhhlaaW.PrintLast Go.Proofs.YtlbhedhbakhhlaaW.PrintMore

/-! ### slices.Index, slices.Contains -/
def fidx (v : Int) : List Int → Nat → Int
  | [], _ => -1
  | x :: t, n => if v = x then (n : Int) else fidx v t (n + 1)
theorem fidx_spec (v : Int) : ∀ (l : List Int) (n : Nat), (fidx v l n = -1 ∧ v ∉ l) ∨ ∃ j, j < l.length ∧ fidx v l n = ((n + j : Nat) : Int) ∧ v ∈ l ∧ l.eraseIdx j = l.erase v
  | [], n => .inl ⟨rfl, by simp⟩
  | x :: t, n => by
    unfold fidx
    by_cases h : v = x
    · subst h
      exact .inr ⟨0, by simp, by simp, by simp, by simp⟩
    · rw [if_neg h]
      rcases fidx_spec v t (n + 1) with ⟨h1, h2⟩ | ⟨j, h1, h2, h3, h4⟩
      · exact .inl ⟨h1, by simp [h, h2]⟩
      · refine .inr ⟨j + 1, by simp; omega, by rw [h2]; congr 1; omega, by simp [h3], ?_⟩
        rw [List.eraseIdx_cons_succ, h4, List.erase_cons_tail (by simpa using Ne.symm h)]
theorem index_l0 (l : List Int) (v : Int) (hl : l.length ≤ 1000000) : ∀ m i, l.length - i = m → i ≤ l.length → Ev (fun k => slices_Index_int_int.l0 k l v (l.length : Int) (i : Int)) (fidx v (l.drop i) i) := by
  intro m
  induction m with
  | zero =>
    intro i hm hi
    rw [List.drop_of_length_le (by omega)]
    refine Ev.step (Ev.pure _) fun k => ?_
    rw [slices_Index_int_int.l0, if_neg (by omega)]
    rfl
  | succ m ih =>
    intro i hm hi
    have hlt : i < l.length := by omega
    rw [List.drop_eq_getElem_cons hlt, fidx]
    by_cases h : v = l[i]
    · rw [if_pos h]
      refine Ev.step (Ev.pure _) fun k => ?_
      rw [slices_Index_int_int.l0, if_pos (by omega), if_pos (by omega), if_pos (by omega), rd_lt l i hlt, if_pos h]
    · rw [if_neg h]
      refine Ev.step (ih (i + 1) (by omega) (by omega)) fun k => ?_
      rw [slices_Index_int_int.l0, if_pos (by omega), if_pos (by omega), if_pos (by omega), rd_lt l i hlt, if_neg h, wrap_succ (by omega)]
theorem index_ev (l : List Int) (v : Int) (hl : l.length ≤ 1000000) : Ev (fun k => slices_Index_int_int.f k l v) (fidx v l 0) := by
  unfold slices_Index_int_int.f
  have := index_l0 l v hl l.length 0 (by omega) (by omega)
  simpa using this
theorem contains_ev (l : List Int) (v : Int) (hl : l.length ≤ 1000000) : Ev (fun k => slices_Contains_int_int.f k l v) (decide (v ∈ l)) := by
  unfold slices_Contains_int_int.f
  refine Ev.bind (index_ev l v hl) ?_
  have e : decide (fidx v l 0 ≥ 0) = decide (v ∈ l) := by
    rcases fidx_spec v l 0 with ⟨h1, h2⟩ | ⟨j, h1, h2, h3, h4⟩
    · rw [h1]; simp [h2]
    · rw [h2]; simp [h3]
  rw [e]
  exact Ev.pure _

/-! ### slices.IsSorted, slices.ContainsFunc -/
def Srt (l : List Int) : Prop := ∀ i, i < l.length → 0 < i → at_ l (i - 1) ≤ at_ l i
instance (l : List Int) : Decidable (Srt l) := inferInstanceAs (Decidable (∀ i, i < l.length → 0 < i → at_ l (i - 1) ≤ at_ l i))
theorem less_int (a b : Int) : cmp_Less_int.f a b = some (decide (a < b)) := by
  simp only [cmp_Less_int.f, cmp_isNaN_int.f, Option.bind_some, bne_self_eq_false, Bool.false_eq_true, if_false]
theorem isSorted_l0 (l : List Int) (hl : l.length ≤ 1000000) : ∀ n, n < l.length ∨ n = 0 → (∀ i, n < i → i < l.length → at_ l (i - 1) ≤ at_ l i) → Ev (fun k => slices_IsSorted_int_int.l0 k l (n : Int)) (decide (Srt l)) := by
  intro n
  induction n with
  | zero =>
    intro _ hs
    have e : decide (Srt l) = true := decide_eq_true (fun i h1 h2 => hs i h2 h1)
    rw [e]
    refine Ev.step (Ev.pure _) fun k => ?_
    rw [slices_IsSorted_int_int.l0, if_neg (by omega)]
  | succ n ih =>
    intro hn hs
    have hn' : n + 1 < l.length := by omega
    by_cases h : at_ l (n + 1) < at_ l n
    · have e : decide (Srt l) = false := decide_eq_false (fun hh => by
        have := hh (n + 1) hn' (by omega)
        rw [Nat.add_sub_cancel] at this
        omega)
      rw [e]
      refine Ev.step (Ev.pure _) fun k => ?_
      rw [slices_IsSorted_int_int.l0, if_pos (by omega), if_pos (by omega), if_pos (by omega), wrap_pred (by omega) (by omega), if_pos (by omega), if_pos (by omega), less_int, Option.bind_some, rd_at, rd_at, if_pos (by simpa using h)]
    · refine Ev.step (ih (by omega) (fun i h1 h2 => ?_)) fun k => ?_
      · by_cases e : i = n + 1
        · subst e; rw [Nat.add_sub_cancel]; omega
        · exact hs i (by omega) h2
      · rw [slices_IsSorted_int_int.l0, if_pos (by omega), if_pos (by omega), if_pos (by omega), wrap_pred (by omega) (by omega), if_pos (by omega), if_pos (by omega), less_int, Option.bind_some, rd_at, rd_at, if_neg (by simpa using h), Nat.add_sub_cancel]
theorem isSorted_ev (l : List Int) (hl : l.length ≤ 1000000) : Ev (fun k => slices_IsSorted_int_int.f k l) (decide (Srt l)) := by
  unfold slices_IsSorted_int_int.f
  by_cases h : l.length = 0
  · have e : decide (Srt l) = true := decide_eq_true (fun i h1 _ => by omega)
    rw [h, e]
    refine Ev.step (Ev.pure _) fun k => ?_
    rw [slices_IsSorted_int_int.l0, if_neg (by rw [wrap_of (by omega) (by omega)]; omega)]
  · rw [wrap_pred (by omega) (by omega)]
    exact isSorted_l0 l hl (l.length - 1) (by omega) (fun i h1 h2 => by omega)
def In60 (l : List Int) : Prop := ∀ i, i < l.length → 1 ≤ at_ l i ∧ at_ l i ≤ 60
instance (l : List Int) : Decidable (In60 l) := inferInstanceAs (Decidable (∀ i, i < l.length → 1 ≤ at_ l i ∧ at_ l i ≤ 60))
theorem claimed1 (x : Int) : echo_claimed_1.f x = some (!decide (1 ≤ x ∧ x ≤ 60)) := by
  unfold echo_claimed_1.f
  rw [within_echo]
  rfl
theorem indexFunc_l0 (l : List Int) (hl : l.length ≤ 1000000) : ∀ m i, l.length - i = m → i ≤ l.length → (∀ j, j < i → 1 ≤ at_ l j ∧ at_ l j ≤ 60) →
    ∃ r, Ev (fun k => slices_IndexFunc_int_int.l0 k l (l.length : Int) (i : Int)) r ∧ (0 ≤ r ↔ ¬ In60 l) := by
  intro m
  induction m with
  | zero =>
    intro i hm hi hj
    refine ⟨-1, Ev.step (Ev.pure _) fun k => ?_, by simp; exact fun j h => hj j (by omega)⟩
    rw [slices_IndexFunc_int_int.l0, if_neg (by omega)]
  | succ m ih =>
    intro i hm hi hj
    have hlt : i < l.length := by omega
    by_cases h : 1 ≤ at_ l i ∧ at_ l i ≤ 60
    · obtain ⟨r, h1, h2⟩ := ih (i + 1) (by omega) (by omega) (fun j h' => by
        by_cases e : j = i
        · subst e; exact h
        · exact hj j (by omega))
      refine ⟨r, Ev.step h1 fun k => ?_, h2⟩
      rw [slices_IndexFunc_int_int.l0, if_pos (by omega), if_pos (by omega), if_pos (by omega), claimed1, Option.bind_some, rd_at, if_neg (by simp; omega), wrap_succ (by omega)]
    · refine ⟨i, Ev.step (Ev.pure _) fun k => ?_, ?_⟩
      · rw [slices_IndexFunc_int_int.l0, if_pos (by omega), if_pos (by omega), if_pos (by omega), claimed1, Option.bind_some, rd_at, if_pos (by simp; omega)]
      · exact ⟨fun _ hh => h (hh i hlt), fun _ => by omega⟩
theorem containsFunc_ev (l : List Int) (hl : l.length ≤ 1000000) : Ev (fun k => slices_ContainsFunc_int_int.f k l 0) (decide (¬ In60 l)) := by
  unfold slices_ContainsFunc_int_int.f slices_IndexFunc_int_int.f
  obtain ⟨r, h1, h2⟩ := indexFunc_l0 l hl l.length 0 (by omega) (by omega) (fun j h => by omega)
  refine Ev.bind h1 ?_
  have e : decide (r ≥ 0) = decide (¬ In60 l) := by
    rw [decide_eq_decide]
    exact h2
  rw [e]
  exact Ev.pure _

/-! ### The errors of claimed delays -/
def pairsOk (n : Nat) : Prop := n = 0 ∨ n = 1 ∨ n = 3 ∨ n = 6 ∨ n = 10 ∨ n = 15
instance (n : Nat) : Decidable (pairsOk n) := inferInstanceAs (Decidable (_ ∨ _))
/-- Right claimed delays. -/
structure C (l : List Int) : Prop where
  n : pairsOk l.length
  srt : Srt l
  r : In60 l
instance (l : List Int) : Decidable (C l) := decidable_of_iff (pairsOk l.length ∧ Srt l ∧ In60 l) ⟨fun h => ⟨h.1, h.2.1, h.2.2⟩, fun h => ⟨h.n, h.srt, h.r⟩⟩
def cErr (l : List Int) : Int := if 15 < l.length then 3 else if C l then 0 else 1
theorem cErr_zero {l : List Int} (h : cErr l = 0) : C l := by
  unfold cErr at h
  split at h
  · cases h
  · split at h
    · assumption
    · cases h
theorem C.len {l : List Int} (h : C l) : l.length ≤ 15 := by
  have := h.n
  unfold pairsOk at this
  omega
theorem cErr_of {l : List Int} (h : C l) : cErr l = 0 := by
  unfold cErr
  rw [if_neg (by have := h.len; omega), if_pos h]
theorem claimed_ev (l : List Int) : Ev (fun k => echo_claimed.f k l) (cErr l) := by
  unfold echo_claimed.f
  by_cases h : 15 < l.length
  · have e : cErr l = 3 := by unfold cErr; rw [if_pos h]
    rw [e]
    simp only [if_pos (show (l.length : Int) > 15 by omega)]
    exact Ev.pure _
  · simp only [if_neg (show ¬ (l.length : Int) > 15 by omega)]
    refine Ev.bind (contains_ev _ _ (by simp)) ?_
    have e : decide ((l.length : Int) ∈ ([0, 1, 3, 6, 10, 15] : List Int)) = decide (pairsOk l.length) := by
      rw [decide_eq_decide]
      unfold pairsOk
      simp only [List.mem_cons, List.not_mem_nil, or_false]
      omega
    rw [e]
    by_cases h1 : pairsOk l.length
    · simp only [decide_eq_true h1, if_true]
      refine Ev.bind (isSorted_ev l (by omega)) ?_
      by_cases h2 : Srt l
      · simp only [decide_eq_true h2, if_true]
        refine Ev.bind (containsFunc_ev l (by omega)) ?_
        by_cases h3 : In60 l
        · rw [cErr_of ⟨h1, h2, h3⟩]
          simp only [decide_eq_false (show ¬ ¬ In60 l from fun hh => hh h3), Bool.false_eq_true, if_false]
          exact Ev.pure _
        · have e : cErr l = 1 := by unfold cErr; rw [if_neg h, if_neg (fun hc => h3 hc.r)]
          rw [e]
          simp only [decide_eq_true h3, if_true]
          exact Ev.pure _
      · have e : cErr l = 1 := by unfold cErr; rw [if_neg h, if_neg (fun hc => h2 hc.srt)]
        rw [e]
        simp only [decide_eq_false h2, Bool.false_eq_true, if_false]
        exact Ev.pure _
    · have e : cErr l = 1 := by unfold cErr; rw [if_neg h, if_neg (fun hc => h1 hc.n)]
      rw [e]
      simp only [decide_eq_false h1, Bool.false_eq_true, if_false]
      exact Ev.pure _

/-- How many cliffs have so many pairs; 0 for none. -/
def clf (p : Nat) : Int := if p = 0 then 1 else if p = 1 then 2 else if p = 3 then 3 else if p = 6 then 4 else if p = 10 then 5 else if p = 15 then 6 else 0
theorem cliffs_all : ∀ p : Fin 16, diaphoneref05_cliffs.f 10 (p.val : Int) = some (clf p.val) := by decide +kernel
theorem cliffs_ev (p : Nat) (h : p ≤ 15) : Ev (fun k => diaphoneref05_cliffs.f k (p : Int)) (clf p) :=
  Ev.mono (diaphoneref05_cliffs.mono (p : Int)) 10 (cliffs_all ⟨p, by omega⟩)
theorem clf_zero (p : Nat) : clf p = 0 ↔ ¬ pairsOk p := by
  unfold clf pairsOk
  split <;> (try split) <;> (try split) <;> (try split) <;> (try split) <;> (try split) <;> simp_all
theorem isDelays_l0 (l : List Int) (hl : l.length ≤ 15) : ∀ m i, l.length - i = m → i ≤ l.length → (∀ j, j < i → (1 ≤ at_ l j ∧ at_ l j ≤ 60) ∧ (0 < j → at_ l (j - 1) ≤ at_ l j)) → Ev (fun k => diaphoneref05_isDelays.l0 k l (i : Int)) (cErr l) := by
  intro m
  induction m with
  | zero =>
    intro i hm hi hj
    refine Ev.step (g := fun k => (diaphoneref05_cliffs.f k (l.length : Int)).bind fun t105 => (if t105 = 0 then (some 1) else (some 0))) ?_ fun k => ?_
    · refine Ev.bind (cliffs_ev l.length hl) ?_
      by_cases h : pairsOk l.length
      · rw [cErr_of ⟨h, fun i h1 h2 => (hj i (by omega)).2 h2, fun i h1 => (hj i (by omega)).1⟩]
        simp only [if_neg (show ¬ clf l.length = 0 from fun e => (clf_zero _).1 e h)]
        exact Ev.pure _
      · have e : cErr l = 1 := by unfold cErr; rw [if_neg (by omega), if_neg (fun hc => h hc.n)]
        rw [e]
        simp only [if_pos ((clf_zero _).2 h)]
        exact Ev.pure _
    · rw [diaphoneref05_isDelays.l0, if_neg (by omega)]
  | succ m ih =>
    intro i hm hi hj
    have hlt : i < l.length := by omega
    by_cases h : 1 ≤ at_ l i ∧ at_ l i ≤ 60
    · by_cases h2 : 0 < i ∧ at_ l i < at_ l (i - 1)
      · have e : cErr l = 1 := by unfold cErr; rw [if_neg (by omega), if_neg (fun hc => by have := hc.srt i hlt h2.1; omega)]
        rw [e]
        refine Ev.step (Ev.pure _) fun k => ?_
        rw [diaphoneref05_isDelays.l0, if_pos (by omega), if_pos (by omega), within_ref, Option.bind_some, rd_at, if_pos (by simpa using h), if_pos (by omega), wrap_pred (by omega) h2.1, if_pos (by omega), if_pos (by omega), rd_at, if_pos (by omega)]
      · refine Ev.step (ih (i + 1) (by omega) (by omega) (fun j h' => ?_)) fun k => ?_
        · by_cases e : j = i
          · subst e; exact ⟨h, fun h0 => by omega⟩
          · exact hj j (by omega)
        · rw [diaphoneref05_isDelays.l0, if_pos (by omega), if_pos (by omega), within_ref, Option.bind_some, rd_at, if_pos (by simpa using h), wrap_succ (by omega)]
          by_cases h0 : 0 < i
          · rw [if_pos (by omega), wrap_pred (by omega) h0, if_pos (by omega), if_pos (by omega), rd_at, if_neg (by omega)]
          · rw [if_neg (by omega)]
    · have e : cErr l = 1 := by unfold cErr; rw [if_neg (by omega), if_neg (fun hc => h (hc.r i hlt))]
      rw [e]
      refine Ev.step (Ev.pure _) fun k => ?_
      rw [diaphoneref05_isDelays.l0, if_pos (by omega), if_pos (by omega), within_ref, Option.bind_some, rd_at, if_neg (by simpa using h)]
theorem isDelays_ev (l : List Int) : Ev (fun k => diaphoneref05_isDelays.f k l) (cErr l) := by
  unfold diaphoneref05_isDelays.f
  by_cases h : 15 < l.length
  · have e : cErr l = 3 := by unfold cErr; rw [if_pos h]
    rw [e]
    simp only [if_pos (show (l.length : Int) > 15 by omega)]
    exact Ev.pure _
  · simp only [if_neg (show ¬ (l.length : Int) > 15 by omega)]
    exact isDelays_l0 l (by omega) l.length 0 (by omega) (by omega) (fun j h => by omega)

/-! ### CheckCliffs -/
def ccErr (l c : List Int) : Int := if cErr l = 0 then (if vErr c = 0 then (if dl c = l then 0 else 7) else vErr c) else cErr l
theorem CheckCliffs_ev (l c : List Int) : Ev (fun k => echo_CheckCliffs.f k l c) (ccErr l c) := by
  unfold echo_CheckCliffs.f ccErr
  refine Ev.bind (claimed_ev l) ?_
  by_cases h : cErr l = 0
  · simp only [if_pos h]
    refine Ev.bind (validate_ev c) ?_
    by_cases h2 : vErr c = 0
    · simp only [if_pos h2]
      have hs := (vErr_zero h2).small
      refine Ev.bind (delays_ev hs) ?_
      refine Ev.bind (Ev.of ((dl c).length + 1) (fun k hk => equal_ev (dl c) l (by have := dl_len hs; omega) k (by omega))) ?_
      by_cases h3 : dl c = l
      · simp only [decide_eq_true h3, if_true, if_pos h3]; exact Ev.pure _
      · simp only [decide_eq_false h3, Bool.false_eq_true, if_false, if_neg h3]; exact Ev.pure _
    · simp only [if_neg h2]; exact Ev.pure _
  · simp only [if_neg h]; exact Ev.pure _
theorem RCheckCliffs_ev (l c : List Int) : Ev (fun k => diaphoneref05_CheckCliffs.f k l c) (ccErr l c) := by
  unfold diaphoneref05_CheckCliffs.f ccErr
  refine Ev.bind (isDelays_ev l) ?_
  by_cases h : cErr l = 0
  · simp only [if_pos h]
    refine Ev.bind (rvalidate_ev c) ?_
    by_cases h2 : vErr c = 0
    · simp only [if_pos h2]
      have hs := (vErr_zero h2).small
      refine Ev.bind (rdelays_ev hs) ?_
      refine Ev.bind (same_ev (dl c) l (by have := dl_len hs; omega)) ?_
      by_cases h3 : dl c = l
      · simp only [decide_eq_true h3, if_true, if_pos h3]; exact Ev.pure _
      · simp only [decide_eq_false h3, Bool.false_eq_true, if_false, if_neg h3]; exact Ev.pure _
    · simp only [if_neg h2]; exact Ev.pure _
  · simp only [if_neg h]; exact Ev.pure _
end Go.Proofs.Ytlbhedhbakhhlaa.Q

/- Cliffs with one more place, by the code and by the document, and what their delays are. -/
namespace Go.Proofs.Ytlbhedhbakhhlaa.Q
open Go.RowKit Go.Proofs.YtlbhedhbakhhlaaW.PrintWords Go.Proofs.YtlbhedhbakhhlaaW.PrintLast Go.Proofs.YtlbhedhbakhhlaaW.PrintMore

theorem half_of {i j : Nat} (h : i + j ≤ 1000000) : wrap64 ((IntKind.u64.wrap (wrap64 ((i : Int) + (j : Int)))) / 2) = (((i + j) / 2 : Nat) : Int) := by
  have e0 : wrap64 ((i : Int) + (j : Int)) = (i : Int) + (j : Int) := wrap_of (by omega) (by omega)
  have e1 : IntKind.u64.wrap ((i : Int) + (j : Int)) = (i : Int) + (j : Int) := by rw [IntKind.wrap_u64]; omega
  rw [e0, e1, wrap_of (by omega) (by omega)]
  omega
/-- Where a place is, or would be. -/
theorem search_l0 {c : List Int} (v : Int) (hs : ∀ i j, i < j → j < c.length → at_ c i < at_ c j) (hl : c.length ≤ 1000) : ∀ m i j, j - i = m → i ≤ j → j ≤ c.length → (∀ a, a < i → at_ c a < v) → (∀ a, j ≤ a → a < c.length → v ≤ at_ c a) →
    ∃ p, p ≤ c.length ∧ (∀ a, a < p → at_ c a < v) ∧ (∀ a, p ≤ a → a < c.length → v ≤ at_ c a) ∧ Ev (fun k => slices_BinarySearch_int_int.l0 k c v (c.length : Int) (i : Int) (j : Int)) ((p : Int), decide (v ∈ c)) := by
  intro m
  induction m using Nat.strongRecOn with
  | _ m ih =>
    intro i j hm hij hj hlo hhi
    by_cases h : i < j
    · have hh : (i + j) / 2 < j := by omega
      by_cases hv : at_ c ((i + j) / 2) < v
      · obtain ⟨p, h1, h2, h3, h4⟩ := ih (j - ((i + j) / 2 + 1)) (by omega) ((i + j) / 2 + 1) j rfl (by omega) hj (fun a ha => by
          by_cases e : a = (i + j) / 2
          · subst e; exact hv
          · have := hs a ((i + j) / 2) (by omega) (by omega); omega) hhi
        refine ⟨p, h1, h2, h3, Ev.step h4 fun k => ?_⟩
        rw [slices_BinarySearch_int_int.l0, if_pos (by omega), half_of (by omega), if_pos (by omega), if_pos (by omega), rd_at, less_int, Option.bind_some, if_pos (by simpa using hv), wrap_succ (by omega)]
      · obtain ⟨p, h1, h2, h3, h4⟩ := ih ((i + j) / 2 - i) (by omega) i ((i + j) / 2) rfl (by omega) (by omega) hlo (fun a h1 h2 => by
          by_cases e : a = (i + j) / 2
          · subst e; omega
          · have := hs ((i + j) / 2) a (by omega) h2; omega)
        refine ⟨p, h1, h2, h3, Ev.step h4 fun k => ?_⟩
        rw [slices_BinarySearch_int_int.l0, if_pos (by omega), half_of (by omega), if_pos (by omega), if_pos (by omega), rd_at, less_int, Option.bind_some, if_neg (by simpa using hv)]
    · have : i = j := by omega
      subst this
      have hmem : v ∈ c ↔ i < c.length ∧ at_ c i = v := by
        constructor
        · intro hx
          obtain ⟨a, ha, e⟩ := List.mem_iff_getElem.1 hx
          rw [← at_lt] at e
          have h1 : ¬ a < i := fun h' => by have := hlo a h'; omega
          by_cases e2 : a = i
          · subst e2; exact ⟨ha, e⟩
          · have h2 := hhi i (by omega) (by omega)
            have h3 := hs i a (by omega) ha
            omega
        · rintro ⟨h1, h2⟩
          rw [← h2, at_lt c i h1]
          exact List.getElem_mem h1
      refine ⟨i, hj, hlo, hhi, ?_⟩
      by_cases hi : i < c.length
      · by_cases he : at_ c i = v
        · rw [decide_eq_true (hmem.2 ⟨hi, he⟩)]
          refine Ev.step (Ev.pure _) fun k => ?_
          rw [slices_BinarySearch_int_int.l0, if_neg (by omega), if_pos (by omega), if_pos (by omega), if_pos (by omega), rd_at, if_pos he]
        · rw [decide_eq_false (fun hx => he (hmem.1 hx).2)]
          refine Ev.step (Ev.pure _) fun k => ?_
          rw [slices_BinarySearch_int_int.l0, if_neg (by omega), if_pos (by omega), if_pos (by omega), if_pos (by omega), rd_at, if_neg he]
          simp [slices_isNaN_int.f]
      · rw [decide_eq_false (fun hx => hi (hmem.1 hx).1)]
        refine Ev.step (Ev.pure _) fun k => ?_
        rw [slices_BinarySearch_int_int.l0, if_neg (by omega), if_neg (by omega)]
theorem search_ev {c : List Int} (v : Int) (hs : ∀ i j, i < j → j < c.length → at_ c i < at_ c j) (hl : c.length ≤ 1000) :
    ∃ p, p ≤ c.length ∧ (∀ a, a < p → at_ c a < v) ∧ (∀ a, p ≤ a → a < c.length → v ≤ at_ c a) ∧ Ev (fun k => slices_BinarySearch_int_int.f k c v) ((p : Int), decide (v ∈ c)) := by
  unfold slices_BinarySearch_int_int.f
  exact search_l0 v hs hl c.length 0 c.length rfl (by omega) (by omega) (fun a h => by omega) (fun a h1 h2 => by omega)

theorem V.pairwise {c : List Int} (h : V c) : c.Pairwise (fun a b => a < b) := by
  rw [List.pairwise_iff_getElem]
  intro i j hi hj hij
  rw [← at_lt, ← at_lt]
  exact h.lt hij hj
theorem insert_sorted {c : List Int} {v : Int} {p : Nat} (h : V c) (hp : p ≤ c.length) (hlo : ∀ a, a < p → at_ c a < v) (hhi : ∀ a, p ≤ a → a < c.length → v ≤ at_ c a) : c.take p ++ [v] ++ c.drop p = isortI (c ++ [v]) := by
  apply isortI_uniq
  · have h1 : (c.take p ++ [v] ++ c.drop p).Perm (c.take p ++ (c.drop p ++ [v])) := by
      rw [List.append_assoc]
      exact (List.perm_append_comm).append_left _
    refine h1.trans ?_
    rw [← List.append_assoc, List.take_append_drop]
  · have hw : c.Pairwise (fun a b => a ≤ b) := h.pairwise.imp (fun h => by omega)
    rw [List.append_assoc, List.pairwise_append]
    refine ⟨hw.sublist (List.take_sublist _ _), ?_, ?_⟩
    · rw [List.singleton_append, List.pairwise_cons]
      refine ⟨fun x hx => ?_, hw.sublist (List.drop_sublist _ _)⟩
      obtain ⟨j, hj, rfl⟩ := List.mem_iff_getElem.1 hx
      rw [List.length_drop] at hj
      rw [List.getElem_drop, ← at_lt]
      exact hhi _ (by omega) (by omega)
    · intro x hx y hy
      obtain ⟨j, hj, rfl⟩ := List.mem_iff_getElem.1 hx
      rw [List.length_take] at hj
      rw [List.getElem_take, ← at_lt]
      have h1 := hlo j (by omega)
      rcases List.mem_append.1 hy with hy | hy
      · rw [List.mem_singleton.1 hy]; omega
      · obtain ⟨i, hi, rfl⟩ := List.mem_iff_getElem.1 hy
        rw [List.length_drop] at hi
        rw [List.getElem_drop, ← at_lt]
        have := hhi (p + i) (by omega) (by omega)
        omega
/-- With one more place. -/
def wth (c : List Int) (v : Int) : List Int := isortI (c ++ [v])
def wR (c : List Int) (v : Int) : List Int × Int := if vErr c = 0 then (if v ∈ c then ([], 5) else if vErr (wth c v) = 0 then (wth c v, 0) else ([], vErr (wth c v))) else ([], vErr c)
theorem checked_ev (l : List Int) : Ev (fun k => echo_checked.f k l) (if vErr l = 0 then (l, 0) else ([], vErr l)) := by
  unfold echo_checked.f
  refine Ev.bind (validate_ev l) ?_
  by_cases h : vErr l = 0
  · simp only [if_pos h]; exact Ev.pure _
  · simp only [if_neg h]; exact Ev.pure _
theorem With_ev (c : List Int) (v : Int) : Ev (fun k => echo_With.f k c v) (wR c v) := by
  unfold echo_With.f wR
  refine Ev.bind (validate_ev c) ?_
  by_cases h : vErr c = 0
  · simp only [if_pos h]
    have hv := vErr_zero h
    have h6 := hv.six
    obtain ⟨p, h1, h2, h3, h4⟩ := search_ev v (fun i j hij hj => hv.lt hij hj) (by omega : c.length ≤ 1000)
    refine Ev.bind h4 ?_
    by_cases hm : v ∈ c
    · simp only [decide_eq_true hm, if_true, if_pos hm]; exact Ev.pure _
    · simp only [decide_eq_false hm, Bool.false_eq_true, if_false, if_neg hm]
      unfold slices_Clone_int_int.f
      rw [if_pos (by omega)]
      refine Ev.some_bind ?_
      have e : slices_Insert_int_int.f c (p : Int) [v] = some (wth c v) := by
        unfold slices_Insert_int_int.f
        rw [if_pos ⟨rfl, by omega, by omega, by omega⟩, Int.toNat_natCast, insert_sorted hv h1 h2 h3]
        rfl
      rw [e]
      refine Ev.some_bind ?_
      refine Ev.bind (checked_ev (wth c v)) ?_
      exact Ev.pure _
  · simp only [if_neg h]; exact Ev.pure _

/-! ### The document's 'made' -/
theorem nodup_kept {s : List Int} (hs : s.Pairwise (fun a b => a ≤ b)) : allKept s ↔ s.Nodup := by
  constructor
  · intro h
    have h1 := (compact_len s).2 h
    have h2 : Lib.compact s = s := (compact_sub s).eq_of_length h1
    rw [← h2]
    exact compact_nodup (le := fun a b => a ≤ b) (fun a b h1 h2 => by omega) s hs
  · intro h j hj
    rw [keeps_at s j hj, decide_eq_true_eq]
    by_cases e : j = 0
    · exact .inl e
    · refine .inr fun he => ?_
      rw [at_lt s j hj, at_lt s (j - 1) (by omega)] at he
      have := List.pairwise_iff_getElem.1 h (j - 1) j (by omega) hj (by omega)
      exact this he.symm
theorem made_l0 (s : List Int) (hs : s.length ≤ 1000000) : ∀ m i, s.length - i = m → 0 < i → (∀ j, j < i → j < s.length → Lib.keeps s.toArray j = true) →
    Ev (fun k => diaphoneref05_made.l0 k s (i : Int)) (if allKept s then (if vErr s = 0 then (s, 0) else ([], vErr s)) else ([], 5)) := by
  intro m
  induction m with
  | zero =>
    intro i hm hi hk
    have hall : allKept s := fun j hj => hk j (by omega) hj
    rw [if_pos hall]
    refine Ev.step (g := fun k => (diaphoneref05_Validate.f k s).bind fun t106 => (if t106 = 0 then (some (s, 0)) else (some (([] : List Int), t106)))) ?_ fun k => ?_
    · refine Ev.bind (rvalidate_ev s) ?_
      by_cases h : vErr s = 0
      · simp only [if_pos h]; exact Ev.pure _
      · simp only [if_neg h]; exact Ev.pure _
    · rw [diaphoneref05_made.l0, if_neg (by omega)]
  | succ m ih =>
    intro i hm hi hk
    by_cases he : at_ s i = at_ s (i - 1)
    · have hno : ¬ allKept s := fun hall => by
        have := hall i (by omega)
        rw [keeps_at s i (by omega), decide_eq_true_eq] at this
        omega
      rw [if_neg hno]
      refine Ev.step (Ev.pure _) fun k => ?_
      rw [diaphoneref05_made.l0, if_pos (by omega), if_pos (by omega), wrap_pred (by omega) hi, if_pos (by omega), if_pos (by omega), rd_at, rd_at, if_pos he]
    · refine Ev.step (ih (i + 1) (by omega) (by omega) (fun j hj hjl => ?_)) fun k => ?_
      · by_cases e : j = i
        · subst e
          rw [keeps_at s j hjl]
          simp [he]
        · exact hk j (by omega) hjl
      · rw [diaphoneref05_made.l0, if_pos (by omega), if_pos (by omega), wrap_pred (by omega) hi, if_pos (by omega), if_pos (by omega), rd_at, rd_at, if_neg he, wrap_succ (by omega)]
theorem made_ev (l : List Int) (hl : l.length ≤ 1000000) : Ev (fun k => diaphoneref05_made.f k l) (if l.Nodup then (if vErr (isortI l) = 0 then (isortI l, 0) else ([], vErr (isortI l))) else ([], 5)) := by
  unfold diaphoneref05_made.f
  refine Ev.bind (sorted_ev l (by omega)) ?_
  have hlen : (isortI l).length = l.length := (isortI_perm l).length_eq
  have := made_l0 (isortI l) (by omega) _ 1 rfl (by omega) (fun j hj hl => by
    have : j = 0 := by omega
    subst this
    rw [keeps_at _ _ hl]
    simp)
  have e : allKept (isortI l) ↔ l.Nodup := (nodup_kept (isortI_sorted l)).trans (isortI_perm l).nodup_iff
  by_cases h : l.Nodup
  · rw [if_pos (e.2 h)] at this
    rw [if_pos h]
    exact this
  · rw [if_neg (fun h' => h (e.1 h'))] at this
    rw [if_neg h]
    exact this
theorem V.nodup {c : List Int} (h : V c) : c.Nodup := h.pairwise.imp (fun h => by omega)
theorem RWith_ev (c : List Int) (v : Int) : Ev (fun k => diaphoneref05_With.f k c v) (wR c v) := by
  unfold diaphoneref05_With.f wR
  refine Ev.bind (rvalidate_ev c) ?_
  by_cases h : vErr c = 0
  · simp only [if_pos h]
    have hv := vErr_zero h
    have h6 := hv.six
    refine Ev.some_bind ?_
    simp only [List.length_nil, Nat.zero_add, if_pos (show c.length < 17592186044416 by omega), List.nil_append]
    refine Ev.some_bind ?_
    simp only [if_pos (show c.length < 17592186044416 by omega)]
    refine Ev.bind (made_ev (c ++ [v]) (by simp; omega)) ?_
    by_cases hm : v ∈ c
    · have hn : ¬ (c ++ [v]).Nodup := fun hh => by
        rw [List.nodup_append] at hh
        exact hh.2.2 v hm v (by simp) rfl
      simp only [if_neg hn, if_pos hm]
      exact Ev.pure _
    · have hn : (c ++ [v]).Nodup := by
        rw [List.nodup_append]
        refine ⟨hv.nodup, by simp, fun a ha b hb e => ?_⟩
        rw [List.mem_singleton.1 hb] at e
        rw [e] at ha
        exact hm ha
      simp only [if_pos hn, if_neg hm]
      exact Ev.pure _
  · simp only [if_neg h]; exact Ev.pure _

/-! ### The delays with one more place -/
theorem P_insert (v : Int) (b : List Int) : ∀ a : List Int, (P (a ++ v :: b)).Perm (P (a ++ b) ++ (a.map (fun x => v - x) ++ b.map (fun x => x - v)))
  | [] => by
    simp only [List.nil_append, P, List.map_nil]
    exact List.perm_append_comm
  | x :: t => by
    have ih := P_insert v b t
    simp only [List.cons_append, P, List.map_append, List.map_cons]
    rw [List.perm_iff_count] at ih ⊢
    intro y
    have := ih y
    simp only [List.count_append, List.count_cons] at this ⊢
    omega
theorem dl_wth {c : List Int} {v : Int} (h : V c) : dl (wth c v) = isortI (P c ++ c.map fun x => mx (x - v) (v - x)) := by
  have h6 := h.six
  obtain ⟨p, h1, h2, h3, _⟩ := search_ev v (fun i j hij hj => h.lt hij hj) (by omega : c.length ≤ 1000)
  rw [dl_P]
  apply isortI_congr
  unfold wth
  rw [← insert_sorted h h1 h2 h3, List.append_assoc, List.singleton_append]
  refine (P_insert v _ _).trans ?_
  rw [List.take_append_drop]
  refine List.Perm.append_left _ ?_
  have e1 : (c.take p).map (fun x => v - x) = (c.take p).map fun x => mx (x - v) (v - x) := by
    apply List.map_congr_left
    intro x hx
    obtain ⟨j, hj, rfl⟩ := List.mem_iff_getElem.1 hx
    rw [List.length_take] at hj
    rw [List.getElem_take, ← at_lt]
    have := h2 j (by omega)
    unfold mx
    rw [if_pos (by omega)]
  have e2 : (c.drop p).map (fun x => x - v) = (c.drop p).map fun x => mx (x - v) (v - x) := by
    apply List.map_congr_left
    intro x hx
    obtain ⟨j, hj, rfl⟩ := List.mem_iff_getElem.1 hx
    rw [List.length_drop] at hj
    rw [List.getElem_drop, ← at_lt]
    have := h3 (p + j) (by omega) (by omega)
    unfold mx
    split <;> omega
  rw [e1, e2, ← List.map_append, List.take_append_drop]
end Go.Proofs.Ytlbhedhbakhhlaa.Q

/- The plain law of EchoWith: cliffs with one more place, by the code and by the document; the delays are those that there were and the distances of the new place. -/
namespace Go.Proofs.Ytlbhedhbakhhlaa.Pure
open Go.RowKit Go.Proofs.Ytlbhedhbakhhlaa.Q

/-- Two sorted lists X and E are taken together step by step, as Y tells it; F is E twice as great. -/
theorem merge_l0 (X E Y : List Int) (hX : X.Pairwise (fun a b => a ≤ b)) (hE : E.Pairwise (fun a b => a ≤ b)) (hY : Y.Pairwise (fun a b => a ≤ b)) (hr : ∀ x ∈ Y, -1000000 ≤ x ∧ x ≤ 1000000) (hl : Y.length ≤ 1000000) (hXl : X.length ≤ 1000000) (hEl : E.length ≤ 1000000) :
    ∀ m k i j, Y.length - k = m → k ≤ Y.length → i ≤ X.length → j ≤ E.length → (Y.drop k).Perm (X.drop i ++ E.drop j) →
      Ev (fun n => diaphonelaw05_EchoWith.l0 n X Y (E.map fun x => 2 * x) (i : Int) (j : Int) (k : Int)) true := by
  have hF : (E.map fun x => 2 * x).length = E.length := by simp
  intro m
  induction m with
  | zero =>
    intro k i j hm hk hi hj hp
    exact Ev.step sane_end fun n => by rw [diaphonelaw05_EchoWith.l0, if_neg (by omega)]
  | succ m ih =>
    intro k i j hm hk hi hj hp
    have hkl : k < Y.length := by omega
    have hy : Y.drop k = Y[k] :: Y.drop (k + 1) := List.drop_eq_getElem_cons hkl
    have hyr := hr _ (List.getElem_mem hkl)
    have hmin : ∀ x ∈ X.drop i ++ E.drop j, Y[k] ≤ x := fun x hx => by
      have hx' := hp.mem_iff.2 hx
      rw [hy, List.mem_cons] at hx'
      rcases hx' with rfl | hx'
      · omega
      · obtain ⟨a, ha, rfl⟩ := List.mem_iff_getElem.1 hx'
        rw [List.length_drop] at ha
        rw [List.getElem_drop]
        exact List.pairwise_iff_getElem.1 hY k (k + 1 + a) hkl (by omega) (by omega)
    have hXi : ∀ h : i < X.length, Y[k] ≤ X[i] := fun h => hmin _ (List.mem_append_left _ (by rw [List.drop_eq_getElem_cons h]; exact List.mem_cons_self))
    have hEj : ∀ h : j < E.length, Y[k] ≤ E[j] := fun h => hmin _ (List.mem_append_right _ (by rw [List.drop_eq_getElem_cons h]; exact List.mem_cons_self))
    have hw : wrap64 (2 * Y[k]) = 2 * Y[k] := wrap_of (by omega) (by omega)
    have rdY : YtlbhedhbakhhlaaW.PrintWords.rd Y (k : Int) = Y[k] := rd_lt Y k hkl
    have rdX : ∀ h : i < X.length, YtlbhedhbakhhlaaW.PrintWords.rd X (i : Int) = X[i] := fun h => rd_lt X i h
    have rdF : ∀ h : j < E.length, YtlbhedhbakhhlaaW.PrintWords.rd (E.map fun x => 2 * x) (j : Int) = 2 * E[j] := fun h => by
      rw [rd_lt _ j (by rw [hF]; exact h)]
      simp
    -- what comes behind the first test
    have key : Ev (fun n => diaphonelaw05_EchoWith.j3 n X Y (E.map fun x => 2 * x) (i : Int) (j : Int) (k : Int) false) true := by
      by_cases hx : ∃ h : i < X.length, X[i] = Y[k]
      · obtain ⟨h, he⟩ := hx
        have hp' : (Y.drop (k + 1)).Perm (X.drop (i + 1) ++ E.drop j) := by
          rw [hy, List.drop_eq_getElem_cons h, he, List.cons_append] at hp
          exact hp.cons_inv
        refine Ev.step (g := fun n => diaphonelaw05_EchoWith.j4 n X Y (E.map fun x => 2 * x) (i : Int) (j : Int) (k : Int) true) (Ev.step (ih (k + 1) (i + 1) j (by omega) (by omega) (by omega) hj hp') fun n => ?_) fun n => ?_
        · rw [diaphonelaw05_EchoWith.j4, if_pos rfl, wrap_succ (by omega), wrap_succ (by omega)]
        · rw [diaphonelaw05_EchoWith.j3, if_neg (by decide), if_pos (by omega), if_pos (by omega), if_pos (by omega), if_pos (by omega), rdX h, rdY, he, beq_self_eq_true]
      · have hno : Y[k] ∉ X.drop i := fun hm' => by
          obtain ⟨a, ha, he⟩ := List.mem_iff_getElem.1 hm'
          rw [List.length_drop] at ha
          rw [List.getElem_drop] at he
          have h : i < X.length := by omega
          have h1 := hXi h
          have h2 : X[i] ≤ X[i + a] := by
            by_cases e : a = 0
            · subst e; simp
            · exact List.pairwise_iff_getElem.1 hX i (i + a) h (by omega) (by omega)
          exact hx ⟨h, by omega⟩
        have hin : Y[k] ∈ E.drop j := by
          have : Y[k] ∈ X.drop i ++ E.drop j := hp.mem_iff.1 (by rw [hy]; exact List.mem_cons_self)
          exact (List.mem_append.1 this).resolve_left hno
        obtain ⟨a, ha, he⟩ := List.mem_iff_getElem.1 hin
        rw [List.length_drop] at ha
        rw [List.getElem_drop] at he
        have h : j < E.length := by omega
        have h1 := hEj h
        have h2 : E[j] ≤ E[j + a] := by
          by_cases e : a = 0
          · subst e; simp
          · exact List.pairwise_iff_getElem.1 hE j (j + a) h (by omega) (by omega)
        have heq : E[j] = Y[k] := by omega
        have hp' : (Y.drop (k + 1)).Perm (X.drop i ++ E.drop (j + 1)) := by
          rw [hy, List.drop_eq_getElem_cons h, heq] at hp
          exact (hp.trans List.perm_middle).cons_inv
        have hj4 : Ev (fun n => diaphonelaw05_EchoWith.j4 n X Y (E.map fun x => 2 * x) (i : Int) (j : Int) (k : Int) false) true := by
          refine Ev.step (ih (k + 1) i (j + 1) (by omega) (by omega) hi (by omega) hp') fun n => ?_
          rw [diaphonelaw05_EchoWith.j4, if_neg (by decide), if_pos (by omega), if_pos (by omega), if_pos (by omega), if_pos (by omega), rdF h, rdY, hw, if_pos (by omega), wrap_succ (by omega), wrap_succ (by omega)]
        refine Ev.step hj4 fun n => ?_
        rw [diaphonelaw05_EchoWith.j3, if_neg (by decide)]
        by_cases hi' : i < X.length
        · have hne : X[i] ≠ Y[k] := fun e => hx ⟨hi', e⟩
          rw [if_pos (by omega), if_pos (by omega), if_pos (by omega), if_pos (by omega), rdX hi', rdY, beq_false_of_ne hne]
        · rw [if_neg (by omega)]
    refine Ev.step key fun n => ?_
    rw [diaphonelaw05_EchoWith.l0, if_pos (by omega)]
    by_cases hi' : i < X.length
    · rw [if_pos (by omega), if_pos (by omega), if_pos (by omega), rdX hi', rdY, if_neg (by have := hXi hi'; omega)]
      by_cases hj' : j < E.length
      · rw [if_pos (by omega), if_pos (by omega), rdF hj', hw, decide_eq_false (by have := hEj hj'; omega)]
      · rw [if_neg (by omega)]
    · rw [if_neg (by omega)]
      by_cases hj' : j < E.length
      · rw [if_pos (by omega), if_pos (by omega), if_pos (by omega), rdF hj', rdY, hw, decide_eq_false (by have := hEj hj'; omega)]
      · rw [if_neg (by omega)]
theorem isortI_map2 (l : List Int) : isortI (l.map fun x => 2 * x) = (isortI l).map fun x => 2 * x := by
  symm
  apply isortI_uniq
  · exact (isortI_perm l).map _
  · rw [List.pairwise_map]
    exact (isortI_sorted l).imp fun h => by omega
theorem wR_ok {c : List Int} {v : Int} (h : (wR c v).2 = 0) : V c ∧ v ∉ c ∧ (wR c v).1 = wth c v ∧ V (wth c v) := by
  unfold wR at h ⊢
  by_cases h0 : vErr c = 0
  · rw [if_pos h0] at h ⊢
    by_cases hm : v ∈ c
    · rw [if_pos hm] at h; cases h
    · rw [if_neg hm] at h ⊢
      by_cases h1 : vErr (wth c v) = 0
      · rw [if_pos h1]
        exact ⟨vErr_zero h0, hm, rfl, vErr_zero h1⟩
      · rw [if_neg h1] at h
        exact absurd h h1
  · rw [if_neg h0] at h
    exact absurd h h0
theorem with_j0 (c : List Int) (v : Int) (x : List Int × Int) (hx : x = wR c v) : Ev (fun k => diaphonelaw05_EchoWith.j0 k c v x.1 x.2 (x.2 != x.2)) true := by
  subst hx
  by_cases h : (wR c v).2 = 0
  · obtain ⟨hv, hm, ha, hw⟩ := wR_ok h
    have h6 := hv.six
    have hvr : -60 ≤ v ∧ v ≤ 60 := by
      have hin : v ∈ wth c v := (isortI_perm _).mem_iff.2 (by simp)
      obtain ⟨i, hi, he⟩ := List.mem_iff_getElem.1 hin
      have := hw.range hi
      rw [at_lt _ i hi, he] at this
      exact this
    have hh : hErr c v = 0 := by unfold hErr; rw [if_pos (vErr_of hv), if_pos (by omega)]
    let E0 : List Int := c.map fun x => YtlbhedhbakhhlaaW.PrintWords.mx (x - v) (v - x)
    have hfar : hd c v = (isortI E0).map fun x => 2 * x := by
      rw [← isortI_map2]
      unfold hd far2
      rw [List.map_map]
      rfl
    have hdl : dl (wth c v) = isortI (P c ++ E0) := dl_wth hv
    have hE0 : E0.length = c.length := by simp [E0]
    have hlen : (dl (wth c v)).length = (dl c).length + c.length := by
      rw [hdl, (isortI_perm _).length_eq, List.length_append, dl_P, (isortI_perm _).length_eq, hE0]
    have hsm := dl_len hv.small
    have hsm2 := dl_len hw.small
    refine Ev.step (g := fun k => (echo_Delays.f k c).bind fun bt113 => ((echo_Delays.f k (wth c v)).bind fun bt117 => ((echo_Heard.f k c v).bind fun bt121 => (if bt113.2 = 0 then (if bt117.2 = 0 then (if bt121.2 = 0 then (if (bt117.1.length : Int) = (wrap64 ((bt113.1.length : Int) + (c.length : Int))) then (diaphonelaw05_EchoWith.j1 k bt113.1 bt117.1 bt121.1 ((bt121.1.length : Int) != (c.length : Int))) else (diaphonelaw05_EchoWith.j1 k bt113.1 bt117.1 bt121.1 true)) else (diaphonelaw05_EchoWith.j1 k bt113.1 bt117.1 bt121.1 true)) else (diaphonelaw05_EchoWith.j1 k bt113.1 bt117.1 bt121.1 true)) else (diaphonelaw05_EchoWith.j1 k bt113.1 bt117.1 bt121.1 true))))) ?_ fun k => by rw [diaphonelaw05_EchoWith.j0, if_neg (by simp), if_pos h, ha]
    refine Ev.bind (Delays_ev c) ?_
    refine Ev.bind (Delays_ev (wth c v)) ?_
    refine Ev.bind (Heard_ev c v) ?_
    simp only [vErr_of hv, vErr_of hw, hh, if_true]
    simp only [if_pos (show ((dl (wth c v)).length : Int) = wrap64 (((dl c).length : Int) + (c.length : Int)) by rw [wrap_of (by omega) (by omega)]; omega)]
    have hb : (((hd c v).length : Int) != (c.length : Int)) = false := by rw [hd_len]; simp
    rw [hb]
    refine Ev.step (g := fun k => diaphonelaw05_EchoWith.l0 k (dl c) (dl (wth c v)) (hd c v) 0 0 0) ?_ fun k => by rw [diaphonelaw05_EchoWith.j1, if_neg (by decide)]
    rw [hfar]
    refine merge_l0 (dl c) (isortI E0) (dl (wth c v)) (isortI_sorted _) (isortI_sorted _) (isortI_sorted _) (fun x hx => ?_) (by omega) (by omega) (by rw [(isortI_perm E0).length_eq]; omega) _ 0 0 0 rfl (by omega) (by omega) (by omega) ?_
    · have hx' : x ∈ D (wth c v) (wth c v).length := (isortI_perm _).mem_iff.1 hx
      obtain ⟨i, hi, rfl⟩ := List.mem_iff_getElem.1 hx'
      have key : ∀ n, n ≤ (wth c v).length → ∀ x ∈ D (wth c v) n, -1000000 ≤ x ∧ x ≤ 1000000 := by
        intro n
        induction n with
        | zero => intro _ x hx; cases hx
        | succ n ih =>
          intro hn x hx
          rcases List.mem_append.1 hx with hx | hx
          · exact ih (by omega) x hx
          · obtain ⟨j, hj, rfl⟩ := List.mem_map.1 hx
            have hj' := List.mem_range.1 hj
            have a := hw.range (i := n) (by omega)
            have b := hw.range (i := j) (by omega)
            unfold dif
            omega
      exact key _ (Nat.le_refl _) _ hx'
    · simp only [List.drop_zero]
      rw [hdl]
      refine (isortI_perm _).trans ?_
      rw [dl_P]
      exact List.Perm.append (isortI_perm _).symm (isortI_perm _).symm
  · exact Ev.step sane_end fun k => by rw [diaphonelaw05_EchoWith.j0, if_neg (by simp), if_neg h]

theorem EchoWith : diaphonelaw05_EchoWith.Pure := by
  intro c v _ _ _ _
  refine Ev.ex (r := true) ?_
  unfold diaphonelaw05_EchoWith.f long1.f
  refine Ev.some_bind ?_
  by_cases hl : 100 < c.length
  · simp only [decide_eq_true hl, if_true]
    exact sane_end
  · simp only [decide_eq_false hl, Bool.false_eq_true, if_false]
    refine Ev.bind (With_ev c v) ?_
    refine Ev.bind (RWith_ev c v) ?_
    have hs : (wR c v).1.length ≤ 101 := by
      unfold wR wth
      split <;> (try split) <;> (try split) <;> simp [(isortI_perm _).length_eq] <;> omega
    refine Ev.bind (same_ev _ _ (by omega)) ?_
    simp only [decide_true, if_true]
    exact with_j0 c v _ rfl
end Go.Proofs.Ytlbhedhbakhhlaa.Pure

namespace Go.Proofs.Ytlbhedhbakhhlaa.echoWith
open Go.ChangeShapes Go.WideShapes Go.ChangeAt Go.RowKit
open Go.ChangeMaps (open_string shut_string)
set_option linter.unusedVariables false
theorem own : ownKnob Try.prog.godebug = none := by kernel_rfl
theorem laidOut : laidOutB Try.prog = true := by kernel_rfl
def IsRow (k : IntKind) (w : World) (a : Option Addr) (len cap : Nat) (zs : List Int) : Prop :=
  (a = none ∧ len = 0 ∧ cap = 0 ∧ zs = []) ∨
  ∃ x, a = some x ∧ len ≤ cap ∧ cap ≤ maxLen ∧ zs.length = cap ∧ (∀ i, i < zs.length → w.cell? (x.add i) = some (.int k (zs.getD i 0))) ∧ ∀ n ∈ zs, (Lit.int k n).wf = true
set_option maxRecDepth 100000 in
theorem lifted (os : Os) (started : os.Started) (H : Type) (enc : TypeId × Value → H) :
    ReturnsInHanded {} Try.checked os 12 .any (Rows.echoWithSpec.pre6 enc Try.prog Try.f12 Rows.echoWithRow.domain false) (Rows.echoWithSpec.post enc Try.prog Try.f12 false true false false) := by
  refine returnsInHanded_of_change_sized (C := Try.checked) own started (by kernel_rfl) Try.func12
    (ChangeSpec.witness6 (enc := enc) (C := Try.checked) false ⟨#[], #[.slice none 0 0, .int .i64 0], []⟩ 8 (by kernel_rfl) (by kernel_rfl) (by kernel_rfl) (by kernel_rfl)) ?_
  intro W base args ds gs before hval0 hW hcnd hsz0 _
  have hsz : (DataW.weightsEach Try.prog (Try.f12.params.toList ++ Rows.echoWithSpec.plain.varTypes Try.prog) (ds ++ gs)).all (· ≤ reachBytes) = true := hsz0
  have hval : ∀ (j : Nat) t v, Try.f12.params[j]? = some t → args[j]? = some v → Value.okWide Try.prog W .any base t v := hval0
  have hW' := hW
  obtain ⟨p, q, hA0, hV, rfl, hfz, hnd⟩ := hW
  have hA : DataW.TrodAll enc Try.prog W 0 (fun _ => true) true Try.f12.params.toList args.toList ds p := hA0
  rw [Try.params12] at hA hval hsz
  obtain ⟨v0, vs0, d0, ds0, p0, q0, hargs, rfl, rfl, h0, r0⟩ := trodAll_cons hA
  obtain ⟨v1, vs1, d1, ds1, p1, q1, rfl, rfl, rfl, h1, r1⟩ := trodAll_cons r0
  obtain ⟨rfl, rfl, rfl⟩ := trodAll_nil r1
  obtain rfl : args = #[v0, v1] := by cases args; simp_all
  obtain ⟨rfl, rfl⟩ := trodVars_none hV
  obtain ⟨a0, len0, cap0, rfl⟩ := okWide_slice Try.underlying22 (hval 0 22 v0 rfl rfl)
  have k0 := h0
  have lt0 : ∀ x ∈ p0, x.block < W.heap.size := by obtain ⟨m, hm⟩ := k0; exact DataW.trod_lt m _ _ _ hm
  obtain ⟨z0, w0⟩ : ∃ zs, IsRow .i64 W a0 len0 cap0 zs := by
    obtain ⟨fuel, hf⟩ := h0
    rcases open_ints Try.underlying22 Try.underlying3 (by kernel_rfl) hf with ⟨hcs, _⟩ | ⟨x, l, c, zs, hcs, _, hl, hm, hz, _, hcell, hwz⟩
    · simp [Value.cells] at hcs
      obtain ⟨rfl, rfl, rfl⟩ := hcs
      exact ⟨[], .inl ⟨rfl, rfl, rfl, rfl⟩⟩
    · simp [Value.cells] at hcs
      obtain ⟨rfl, rfl, rfl⟩ := hcs
      exact ⟨zs, .inr ⟨_, rfl, hl, hm, by simpa using hz, hcell, hwz⟩⟩
  have y0 : len0 * 8 ≤ 140737488351232 := Go.Proofs.YtlbhedhbakhhlaaW.PrintWords.sized_ints hsz (j := 0) (t := 22) rfl rfl Try.underlying22 Try.underlying3 (by kernel_rfl) (by kernel_rfl) h0
  obtain ⟨a1, rfl, rfl, rfl, w1⟩ := open_int Try.underlying3 (hval 1 3 v1 rfl rfl) h1
  clear hA0 hval0 hsz0 hsz
  refine (Q.diaphonelaw05_EchoWith.walk Pure.EchoWith a0 len0 cap0 z0 a1 W w0 y0 w1).mono fun e W' ⟨he, bel⟩ => ?_
  subst he
  exact ⟨_, rfl, _, _, _, [], _, [], hW', trodAll_mk1 (shut_bool Try.underlying4 _), (trodAll_cons_mk (Below.trod laidOut (by kernel_rfl) (of_decide_eq_true (by kernel_rfl)) k0 bel lt0) (trodAll_cons_mk (shut_int Try.underlying3 w1) trodAll_mk0)), rfl, bel.frame _, fun h => by cases h⟩
theorem over : Rows.echoWithRow.holds Try.pinned (OpenSpec.ofChange Rows.echoWithSpec) :=
  OpenClaim.holds_of_wide 12 Try.f12 rfl rfl rfl rfl rfl rfl rfl ⟨rfl, rfl, rfl, rfl, rfl⟩ rfl rfl rfl rfl rfl (by kernel_rfl) Try.func12 (by kernel_rfl)
    (of_decide_eq_true (by kernel_rfl)) (by unfold Func.isWrapper; first | (rw [if_pos (by decide +kernel)]; kernel_rfl) | (rw [if_neg (by decide +kernel)]; exact ⟨rfl, rfl⟩))
    (fun os started H enc _ => lifted os started H enc)
theorem proved : Rows.EchoWithSaid := over
end Go.Proofs.Ytlbhedhbakhhlaa.echoWith
namespace Go.Proofs.Ytlbhedhbakhhlaa
/-- The row, under a short name, for the claim. -/
theorem echoWith_holds : Rows.EchoWithSaid := echoWith.proved
end Go.Proofs.Ytlbhedhbakhhlaa

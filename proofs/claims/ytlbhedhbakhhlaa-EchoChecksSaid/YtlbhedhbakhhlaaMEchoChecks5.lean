/- EchoChecks: joined texts (5 of 5) of the proof that the given statement of this claim holds, for every input, without any condition of its own. -/
import Derived.Test.YtlbhedhbakhhlaaMEchoChecks2
import Derived.Test.YtlbhedhbakhhlaaMEchoChecks4
import Derived.Test.YtlbhedhbakhhlaaMEchoChecks3
import Derived.KernelRfl
import Derived.Test.YtlbhedhbakhhlaaRows
import Derived.WalkKit
import Derived.ProofKit
import Derived.OpenShut
import Derived.ShutString
import Derived.ChangeOld
import Derived.Below
import Derived.SizedLaws
import Derived.Test.YtlbhedhbakhhlaaMEchoChecks1
set_option linter.unusedVariables false
set_option linter.unusedSimpArgs false

namespace Go.Proofs.Ytlbhedhbakhhlaa.Q
open Go.RowKit Go.Proofs.YtlbhedhbakhhlaaW.PrintWords Go.Proofs.YtlbhedhbakhhlaaW.PrintLast Go.Proofs.YtlbhedhbakhhlaaW.PrintMore
attribute [local go_sem] max2_int min2_int max_two min_two max_three min_three max_four min_four   -- for this text's walks alone
set_option linter.unusedVariables false
set_option linter.unusedSimpArgs false

/-! ### diaphonelaw05_EchoChecks: function 4 -/
def diaphonelaw05_EchoChecks.f (k : Nat) (l0 : List Int) (l1 : List Int) : Option (Bool) := (long2.f l0 l1).bind fun t101 => (if t101 = true then ((diaphonelaw05_sane.f k).bind fun t102 => (some t102)) else ((echo_CheckCliffs.f k l0 l1).bind fun t103 => ((diaphoneref05_CheckCliffs.f k l0 l1).bind fun t104 => (if t103 = t104 then ((diaphonelaw05_sane.f k).bind fun t105 => (some t105)) else (some false)))))
theorem diaphonelaw05_EchoChecks.mono : ∀ a0 a1 k, LeO (diaphonelaw05_EchoChecks.f k a0 a1) (diaphonelaw05_EchoChecks.f (k + 1) a0 a1) := by
  intro a0 a1 k
  unfold diaphonelaw05_EchoChecks.f
  repeat' first
      | (with_reducible exact diaphonelaw05_sane.mono _)
      | (with_reducible exact diaphoneref05_CheckCliffs.mono _ _ _)
      | (with_reducible exact echo_CheckCliffs.mono _ _ _)
      | (with_reducible exact LeO.refl _)
      | (with_reducible exact LeO.none _)
      | (with_reducible refine LeO.ite ?_ ?_)
      | (with_reducible refine LeO.bind ?_ (fun _ => ?_))
      | exact diaphonelaw05_sane.mono _
      | exact diaphoneref05_CheckCliffs.mono _ _ _
      | exact echo_CheckCliffs.mono _ _ _
      | exact LeO.none _
      | refine LeO.ite ?_ ?_
      | refine LeO.bind ?_ (fun _ => ?_)
set_option maxHeartbeats 8000000 in
set_option maxRecDepth 100000 in
theorem diaphonelaw05_EchoChecks.calls (k : Nat) (A0 : Option Addr) (c0 : Nat) (l0 : List Int) (A1 : Option Addr) (c1 : Nat) (l1 : List Int) (r : Bool) (hrt : r = true) (w : World) (hr0 : Kd.C (Kd.int .i64) w A0 l0.length l0) (hc0 : l0.length ≤ c0) (hr1 : Kd.C (Kd.int .i64) w A1 l1.length l1) (hc1 : l1.length ≤ c1) (h : diaphonelaw05_EchoChecks.f k l0 l1 = some r) :
    Calls Try.prog 4 #[.slice A0 l0.length c0, .slice A1 l1.length c1] w fun e w' => e = .returned (.bool r) ∧ Below w.heap.size w w' := by
  have HRT := Aside0.mk hrt
  clear hrt
  have HR0 := Aside0.mk hr0
  have HC0 := Aside0.mk hc0
  clear hr0 hc0
  have HR1 := Aside0.mk hr1
  have HC1 := Aside0.mk hc1
  clear hr1 hc1
  have HB := Aside0.mk (Below.refl w.heap.size w)
  have H : ((long2.f l0 l1).bind fun t101 => (if t101 = true then ((diaphonelaw05_sane.f k).bind fun t102 => (some t102)) else ((echo_CheckCliffs.f k l0 l1).bind fun t103 => ((diaphoneref05_CheckCliffs.f k l0 l1).bind fun t104 => (if t103 = t104 then ((diaphonelaw05_sane.f k).bind fun t105 => (some t105)) else (some false)))))) = some r := h
  clear h
  replace H := Option.bind_eq_some_iff.mp H
  obtain ⟨t101, A30, H⟩ := H
  replace H : (if t101 = true then ((diaphonelaw05_sane.f k).bind fun t102 => (some t102)) else ((echo_CheckCliffs.f k l0 l1).bind fun t103 => ((diaphoneref05_CheckCliffs.f k l0 l1).bind fun t104 => (if t103 = t104 then ((diaphonelaw05_sane.f k).bind fun t105 => (some t105)) else (some false))))) = some r := H
  have A3 := Aside0.mk A30
  clear A30
  by_cases c4 : t101 = true
  · subst c4
    have H1 : ((diaphonelaw05_sane.f k).bind fun t102 => (some t102)) = some r := by rw [if_pos rfl] at H; exact H
    clear H
    have H := H1
    clear H1
    replace H := Option.bind_eq_some_iff.mp H
    obtain ⟨t102, A50, H⟩ := H
    replace H : (some t102) = some r := H
    have A5 := Aside0.mk A50
    clear A50
    obtain rfl := Option.some.inj H
    go_enter Try.func4, Try.ntmps4
    go_wp2_with (first | (go_at_call 15; (with_reducible refine (long2.calls _ _ l0 _ _ l1 true _ ?side1 ?side2 ?side3 ?side4 A3.out).mono ?_); (case side1 => repeat (first | exact HR0.out | (with_reducible refine Kd.C_alloc ?_ _) | (with_reducible refine Kd.C_drewN ?_ _) | (with_reducible refine Kd.C_drew ?_))); (case side2 => exact HC0.out); (case side3 => repeat (first | exact HR1.out | (with_reducible refine Kd.C_alloc ?_ _) | (with_reducible refine Kd.C_drewN ?_ _) | (with_reducible refine Kd.C_drew ?_))); (case side4 => exact HC1.out); rintro e w6 ⟨rfl, hb⟩; skip; have n0_ := Aside0.mk (below_step (by repeat (first | (with_reducible first | exact HB.out | apply below_alloc | apply pw_below_drewN | apply below_drew1) | exact HB.out)) hb); clear HB; have HB := n0_; clear n0_; (try clear hb); (try clear hb2); (try clear hk); (try clear hi)) | ((with_reducible refine gate_callee (f := 16) rfl ?_); refine goesL_ (some 9) rfl rfl Try.func16 (by kernel_rfl) rfl #[] rfl (by (try simp only [List.map_toArray, List.map_cons, List.map_nil]); first | done | rfl | (simp only [List.length_drop, List.length_take]; rfl)) ?_; (with_reducible refine (diaphonelaw05_sane.calls k  t102 _ A5.out).mono ?_); rintro e w7 ⟨rfl, hb⟩; refine ⟨_, rfl, ?_⟩; have n0_ := Aside0.mk (below_step (by repeat (first | (with_reducible first | exact HB.out | apply below_alloc | apply pw_below_drewN | apply below_drew1) | exact HB.out)) hb); clear HB; have HB := n0_; clear n0_; (try clear hb); (try clear hb2); (try clear hk); (try clear hi)))
    go_ret
    exact ⟨by first | rfl | (simp [errW_none, errW_some] <;> rfl) | (simp [*, errW_none, errW_some] <;> rfl), by repeat (first | (with_reducible first | exact HB.out | apply below_alloc | apply pw_below_drewN | apply below_drew1) | exact HB.out)⟩
  · replace c4 := Bool.eq_false_iff.mpr c4
    subst c4
    have H1 : ((echo_CheckCliffs.f k l0 l1).bind fun t103 => ((diaphoneref05_CheckCliffs.f k l0 l1).bind fun t104 => (if t103 = t104 then ((diaphonelaw05_sane.f k).bind fun t105 => (some t105)) else (some false)))) = some r := by rw [if_neg (show ¬ (false = true) by decide)] at H; exact H
    clear H
    have H := H1
    clear H1
    replace H := Option.bind_eq_some_iff.mp H
    obtain ⟨t103, A80, H⟩ := H
    replace H : ((diaphoneref05_CheckCliffs.f k l0 l1).bind fun t104 => (if t103 = t104 then ((diaphonelaw05_sane.f k).bind fun t105 => (some t105)) else (some false))) = some r := H
    have A8 := Aside0.mk A80
    clear A80
    replace H := Option.bind_eq_some_iff.mp H
    obtain ⟨t104, A90, H⟩ := H
    replace H : (if t103 = t104 then ((diaphonelaw05_sane.f k).bind fun t105 => (some t105)) else (some false)) = some r := H
    have A9 := Aside0.mk A90
    clear A90
    by_cases c10 : t103 = t104
    · rw [if_pos c10] at H
      have c10b0 : (t103 == t104) = true := beq_iff_eq.mpr c10
      have c10b1 : (t103 != t104) = false := bne_eq_false_iff_eq.mpr c10
      clear c10
      replace H := Option.bind_eq_some_iff.mp H
      obtain ⟨t105, A110, H⟩ := H
      replace H : (some t105) = some r := H
      have A11 := Aside0.mk A110
      clear A110
      obtain rfl := Option.some.inj H
      go_enter Try.func4, Try.ntmps4
      go_wp2_with (first | (go_at_call 15; (with_reducible refine (long2.calls _ _ l0 _ _ l1 false _ ?side1 ?side2 ?side3 ?side4 A3.out).mono ?_); (case side1 => repeat (first | exact HR0.out | (with_reducible refine Kd.C_alloc ?_ _) | (with_reducible refine Kd.C_drewN ?_ _) | (with_reducible refine Kd.C_drew ?_))); (case side2 => exact HC0.out); (case side3 => repeat (first | exact HR1.out | (with_reducible refine Kd.C_alloc ?_ _) | (with_reducible refine Kd.C_drewN ?_ _) | (with_reducible refine Kd.C_drew ?_))); (case side4 => exact HC1.out); rintro e w12 ⟨rfl, hb⟩; skip; have n0_ := Aside0.mk (below_step (by repeat (first | (with_reducible first | exact HB.out | apply below_alloc | apply pw_below_drewN | apply below_drew1) | exact HB.out)) hb); clear HB; have HB := n0_; clear n0_; (try clear hb); (try clear hb2); (try clear hk); (try clear hi)) | ((with_reducible refine gate_callee (f := 24) rfl ?_); refine goesL_ (some 12) rfl rfl Try.func24 (by kernel_rfl) rfl #[.slice A0 l0.length c0, .slice A1 l1.length c1] rfl (by (try simp only [List.map_toArray, List.map_cons, List.map_nil]); first | done | rfl | (simp only [List.length_drop, List.length_take]; rfl)) ?_; (with_reducible refine (echo_CheckCliffs.calls k _ _ l0 _ _ l1 t103 _ ?side1 ?side2 ?side3 ?side4 A8.out).mono ?_); (case side1 => repeat (first | exact (Kd.C_below HR0.out HB.out) | (with_reducible refine Kd.C_alloc ?_ _) | (with_reducible refine Kd.C_drewN ?_ _) | (with_reducible refine Kd.C_drew ?_))); (case side2 => exact HC0.out); (case side3 => repeat (first | exact (Kd.C_below HR1.out HB.out) | (with_reducible refine Kd.C_alloc ?_ _) | (with_reducible refine Kd.C_drewN ?_ _) | (with_reducible refine Kd.C_drew ?_))); (case side4 => exact HC1.out); rintro e w13 ⟨rfl, hb⟩; refine ⟨_, rfl, ?_⟩; have n0_ := Aside0.mk (below_step (by repeat (first | (with_reducible first | exact HB.out | apply below_alloc | apply pw_below_drewN | apply below_drew1) | exact HB.out)) hb); clear HB; have HB := n0_; clear n0_; (try clear hb); (try clear hb2); (try clear hk); (try clear hi)) | ((with_reducible refine gate_callee (f := 25) rfl ?_); refine goesL_ (some 15) rfl rfl Try.func25 (by kernel_rfl) rfl #[.slice A0 l0.length c0, .slice A1 l1.length c1] rfl (by (try simp only [List.map_toArray, List.map_cons, List.map_nil]); first | done | rfl | (simp only [List.length_drop, List.length_take]; rfl)) ?_; (with_reducible refine (diaphoneref05_CheckCliffs.calls k _ _ l0 _ _ l1 t104 _ ?side1 ?side2 ?side3 ?side4 A9.out).mono ?_); (case side1 => repeat (first | exact (Kd.C_below HR0.out HB.out) | (with_reducible refine Kd.C_alloc ?_ _) | (with_reducible refine Kd.C_drewN ?_ _) | (with_reducible refine Kd.C_drew ?_))); (case side2 => exact HC0.out); (case side3 => repeat (first | exact (Kd.C_below HR1.out HB.out) | (with_reducible refine Kd.C_alloc ?_ _) | (with_reducible refine Kd.C_drewN ?_ _) | (with_reducible refine Kd.C_drew ?_))); (case side4 => exact HC1.out); rintro e w14 ⟨rfl, hb⟩; refine ⟨_, rfl, ?_⟩; have n0_ := Aside0.mk (below_step (by repeat (first | (with_reducible first | exact HB.out | apply below_alloc | apply pw_below_drewN | apply below_drew1) | exact HB.out)) hb); clear HB; have HB := n0_; clear n0_; (try clear hb); (try clear hb2); (try clear hk); (try clear hi)) | (go_at_call 16; (with_reducible refine (diaphonelaw05_sane.calls k  t105 _ A11.out).mono ?_); rintro e w15 ⟨rfl, hb⟩; have n0_ := Aside0.mk (below_step (by repeat (first | (with_reducible first | exact HB.out | apply below_alloc | apply pw_below_drewN | apply below_drew1) | exact HB.out)) hb); clear HB; have HB := n0_; clear n0_; (try clear hb); (try clear hb2); (try clear hk); (try clear hi)))
      go_ret
      exact ⟨by first | rfl | (simp [errW_none, errW_some] <;> rfl) | (simp [*, errW_none, errW_some] <;> rfl), by repeat (first | (with_reducible first | exact HB.out | apply below_alloc | apply pw_below_drewN | apply below_drew1) | exact HB.out)⟩
    · rw [if_neg c10] at H
      have c10b0 : (t103 == t104) = false := beq_eq_false_iff_ne.mpr c10
      have c10b1 : (t103 != t104) = true := bne_iff_ne.mpr c10
      exact absurd (Option.some.inj H) (by rw [HRT.out]; decide)

/-- THE ONE PURE STATEMENT of diaphonelaw05_EchoChecks: yours. -/
def diaphonelaw05_EchoChecks.Pure : Prop := ∀ (l0 : List Int) (l1 : List Int), l0.length ≤ maxLen → l0.length * 8 ≤ 140737488351232 → (∀ x ∈ l0, (Lit.int .i64 x).wf = true) → l1.length ≤ maxLen → l1.length * 8 ≤ 140737488351232 → (∀ x ∈ l1, (Lit.int .i64 x).wf = true) → ∃ k, diaphonelaw05_EchoChecks.f k l0 l1 = some true
theorem diaphonelaw05_EchoChecks.walk (P : diaphonelaw05_EchoChecks.Pure) (a0 : Option Addr) (len0 cap0 : Nat) (z0 : List Int) (a1 : Option Addr) (len1 cap1 : Nat) (z1 : List Int) (w : World) (w0 : (a0 = none ∧ len0 = 0 ∧ cap0 = 0 ∧ z0 = []) ∨ ∃ x, a0 = some x ∧ len0 ≤ cap0 ∧ cap0 ≤ maxLen ∧ z0.length = cap0 ∧ (∀ i, i < z0.length → w.cell? (x.add i) = some (.int .i64 (z0.getD i 0))) ∧ ∀ n ∈ z0, (Lit.int .i64 n).wf = true) (y0 : len0 * 8 ≤ 140737488351232) (w1 : (a1 = none ∧ len1 = 0 ∧ cap1 = 0 ∧ z1 = []) ∨ ∃ x, a1 = some x ∧ len1 ≤ cap1 ∧ cap1 ≤ maxLen ∧ z1.length = cap1 ∧ (∀ i, i < z1.length → w.cell? (x.add i) = some (.int .i64 (z1.getD i 0))) ∧ ∀ n ∈ z1, (Lit.int .i64 n).wf = true) (y1 : len1 * 8 ≤ 140737488351232) :
    Calls Try.prog 4 #[.slice a0 len0 cap0, .slice a1 len1 cap1] w fun e w' => e = .returned (.bool true) ∧ Below w.heap.size w w' := by
  obtain ⟨l0, rfl, hr0, hm0, hw0, hc0⟩ := ReadsInt.ofRowC w0
  obtain ⟨l1, rfl, hr1, hm1, hw1, hc1⟩ := ReadsInt.ofRowC w1
  obtain ⟨k, h⟩ := P l0 l1 hm0 y0 hw0 hm1 y1 hw1
  refine (diaphonelaw05_EchoChecks.calls k _ _ l0 _ _ l1 true rfl w (Kd.C_of_reads (d := (0 : Int)) (h1 := fun _ => rfl) hr0) hc0 (Kd.C_of_reads (d := (0 : Int)) (h1 := fun _ => rfl) hr1) hc1 h).mono ?_
  rintro e w' ⟨rfl, hd⟩
  exact ⟨rfl, hd⟩

end Go.Proofs.Ytlbhedhbakhhlaa.Q

/- Words for the plain laws: what a printed function has as its result from some number of rounds on. -/
namespace Go.Proofs.Ytlbhedhbakhhlaa.Q
open Go.RowKit Go.Proofs.YtlbhedhbakhhlaaW.PrintWords Go.Proofs.YtlbhedhbakhhlaaW.PrintLast Go.Proofs.YtlbhedhbakhhlaaW.PrintMore

theorem Ev.pure {α : Type} (r : α) : Ev (fun _ => some r) r := ⟨0, fun _ _ => rfl⟩
theorem Ev.of {α : Type} {f : Nat → Option α} {r : α} (K : Nat) (h : ∀ k, K ≤ k → f k = some r) : Ev f r := ⟨K, h⟩
theorem Ev.step {α : Type} {f g : Nat → Option α} {r : α} (hg : Ev g r) (h : ∀ k, f (k + 1) = g k) : Ev f r := by
  obtain ⟨K, hK⟩ := hg
  refine ⟨K + 1, fun k hk => ?_⟩
  obtain ⟨j, rfl⟩ : ∃ j, k = j + 1 := ⟨k - 1, by omega⟩
  rw [h]
  exact hK j (by omega)
theorem Ev.congr {α : Type} {f g : Nat → Option α} {r : α} (hg : Ev g r) (h : ∀ k, f k = g k) : Ev f r := by
  obtain ⟨K, hK⟩ := hg
  exact ⟨K, fun k hk => by rw [h]; exact hK k hk⟩
theorem Ev.bind {α β : Type} {f : Nat → Option α} {g : Nat → α → Option β} {a : α} {r : β} (hf : Ev f a) (hg : Ev (fun k => g k a) r) : Ev (fun k => (f k).bind fun x => g k x) r := by
  obtain ⟨K, hK⟩ := hf
  obtain ⟨L, hL⟩ := hg
  refine ⟨K + L, fun k hk => ?_⟩
  show (f k).bind (fun x => g k x) = some r
  rw [hK k (by omega), Option.bind_some]
  exact hL k (by omega)
theorem Ev.some_bind {α β : Type} {a : α} {g : Nat → α → Option β} {r : β} (hg : Ev (fun k => g k a) r) : Ev (fun k => (some a).bind fun x => g k x) r := Ev.bind (Ev.pure a) hg
theorem Ev.ex {α : Type} {f : Nat → Option α} {r : α} (h : Ev f r) : ∃ k, f k = some r := by
  obtain ⟨K, hK⟩ := h
  exact ⟨K, hK K (Nat.le_refl _)⟩
theorem Ev.ite {α : Type} {c : Prop} [Decidable c] {f g : Nat → Option α} {r : α} (h1 : c → Ev f r) (h2 : ¬ c → Ev g r) : Ev (fun k => if c then f k else g k) r := by
  by_cases h : c
  · simp only [if_pos h]; exact h1 h
  · simp only [if_neg h]; exact h2 h

/-- The wrapped numbers that occur. -/
theorem wrap_nat {n : Nat} (h : n ≤ 9223372036854775807) : wrap64 (n : Int) = n := wrap_of (by omega) (by omega)
theorem wrap_succ {n : Nat} (h : n < 9223372036854775807) : wrap64 ((n : Int) + 1) = ((n + 1 : Nat) : Int) := by rw [wrap_of (by omega) (by omega)]; omega
theorem wrap_pred {n : Nat} (h : n ≤ 9223372036854775807) (h0 : 0 < n) : wrap64 ((n : Int) - 1) = ((n - 1 : Nat) : Int) := by rw [wrap_of (by omega) (by omega)]; omega
end Go.Proofs.Ytlbhedhbakhhlaa.Q

/- What Validate says, by the code and by the document: the same. -/
namespace Go.Proofs.Ytlbhedhbakhhlaa.Q
open Go.RowKit Go.Proofs.YtlbhedhbakhhlaaW.PrintWords Go.Proofs.YtlbhedhbakhhlaaW.PrintLast Go.Proofs.YtlbhedhbakhhlaaW.PrintMore

def at_ (l : List Int) (i : Nat) : Int := l.getD i 0
theorem rd_at (l : List Int) (i : Nat) : rd l (i : Int) = at_ l i := rfl
theorem rd_zero (l : List Int) : rd l 0 = at_ l 0 := rfl
theorem at_lt (l : List Int) (i : Nat) (h : i < l.length) : at_ l i = l[i] := by
  unfold at_
  rw [List.getD_eq_getElem?_getD, List.getElem?_eq_getElem h]
  rfl
/-- A place that is out of reach, or not behind the one before. -/
def badAt (l : List Int) (i : Nat) : Prop := (at_ l i < -60 ∨ 60 < at_ l i) ∨ (0 < i ∧ at_ l i ≤ at_ l (i - 1))
instance (l : List Int) (i : Nat) : Decidable (badAt l i) := inferInstanceAs (Decidable (_ ∨ _))
/-- Right places so far. -/
def goodTo (l : List Int) (n : Nat) : Prop := ∀ i, i < n → ¬ badAt l i
/-- Right cliffs. -/
structure V (l : List Int) : Prop where
  pos : 0 < l.length
  six : l.length ≤ 6
  good : goodTo l l.length
  span : at_ l (l.length - 1) - at_ l 0 ≤ 60
theorem V.range {l : List Int} (h : V l) {i : Nat} (hi : i < l.length) : -60 ≤ at_ l i ∧ at_ l i ≤ 60 := by
  have := h.good i hi
  unfold badAt at this
  omega
theorem V.lt {l : List Int} (h : V l) : ∀ {i j : Nat}, i < j → j < l.length → at_ l i < at_ l j := by
  intro i j hij
  induction j with
  | zero => omega
  | succ j ih =>
    intro hj
    have h1 := h.good (j + 1) hj
    unfold badAt at h1
    rw [Nat.add_sub_cancel] at h1
    by_cases e : i = j
    · subst e; omega
    · have := ih (by omega) (by omega)
      omega
instance (l : List Int) (n : Nat) : Decidable (goodTo l n) := inferInstanceAs (Decidable (∀ i, i < n → ¬ badAt l i))
instance (l : List Int) : Decidable (V l) := decidable_of_iff (0 < l.length ∧ l.length ≤ 6 ∧ goodTo l l.length ∧ at_ l (l.length - 1) - at_ l 0 ≤ 60)
  ⟨fun h => ⟨h.1, h.2.1, h.2.2.1, h.2.2.2⟩, fun h => ⟨h.pos, h.six, h.good, h.span⟩⟩
/-- The error. -/
def vErr (l : List Int) : Int := if l.length = 0 ∨ 6 < l.length then 3 else if V l then 0 else 1

theorem within_echo (a b c : Int) : echo_within.f a b c = some (decide (b ≤ a ∧ a ≤ c)) := by
  unfold echo_within.f
  by_cases h : a ≥ b
  · rw [if_pos h]; simp [h]
  · rw [if_neg h]; simp; omega
theorem within_ref (a b c : Int) : diaphoneref05_within.f a b c = some (decide (b ≤ a ∧ a ≤ c)) := by
  unfold diaphoneref05_within.f
  by_cases h : a ≥ b
  · rw [if_pos h]; simp [h]
  · rw [if_neg h]; simp; omega

/-- What comes behind the loop. -/
theorem v_end (l : List Int) (h0 : 0 < l.length) (h6 : l.length ≤ 6) (hg : goodTo l l.length) :
    (if wrap64 (rd l (wrap64 ((l.length : Int) - 1)) - rd l 0) > 60 then some 1 else some 0 : Option Int) = some (vErr l) := by
  have h1 : ¬ badAt l 0 := hg 0 h0
  have h2 : ¬ badAt l (l.length - 1) := hg _ (by omega)
  unfold badAt at h1 h2
  rw [wrap_pred (by omega) h0, rd_at, rd_zero, wrap_of (by omega) (by omega)]
  by_cases hs : at_ l (l.length - 1) - at_ l 0 > 60
  · have hv : vErr l = 1 := by unfold vErr; rw [if_neg (by omega), if_neg (fun hv => by have := hv.span; omega)]
    rw [if_pos hs, hv]
  · have hv : vErr l = 0 := by unfold vErr; rw [if_neg (by omega), if_pos ⟨h0, h6, hg, by omega⟩]
    rw [if_neg hs, hv]
theorem v_bad (l : List Int) (h0 : 0 < l.length) (h6 : l.length ≤ 6) (i : Nat) (hi : i < l.length) (hb : badAt l i) : vErr l = 1 := by
  unfold vErr
  rw [if_neg (by omega), if_neg (fun hv => hv.good i hi hb)]

theorem validate_l0 (l : List Int) (h0 : 0 < l.length) (h6 : l.length ≤ 6) : ∀ m i, l.length - i = m → i ≤ l.length → goodTo l i → Ev (fun k => echo_Validate.l0 k l l (l.length : Int) (i : Int)) (vErr l) := by
  intro m
  induction m with
  | zero =>
    intro i hm hi hg
    have : i = l.length := by omega
    subst this
    refine Ev.step (Ev.pure (vErr l)) fun k => ?_
    rw [echo_Validate.l0, if_neg (by omega), if_pos (by rw [wrap_pred (by omega) h0]; omega), if_pos (by rw [wrap_pred (by omega) h0]; omega), if_pos (by omega)]
    exact v_end l h0 h6 hg
  | succ m ih =>
    intro i hm hi hg
    have hlt : i < l.length := by omega
    by_cases hb : badAt l i
    · refine Ev.step (Ev.pure (vErr l)) fun k => ?_
      rw [echo_Validate.l0, if_pos (by omega), if_pos (by omega), if_pos (by omega), within_echo, Option.bind_some, v_bad l h0 h6 i hlt hb, rd_at]
      by_cases hr : -60 ≤ at_ l i ∧ at_ l i ≤ 60
      · have hb2 : 0 < i ∧ at_ l i ≤ at_ l (i - 1) := by unfold badAt at hb; omega
        rw [if_pos (by simpa using hr), if_pos (by omega), wrap_pred (by omega) hb2.1, if_pos (by omega), if_pos (by omega), rd_at, if_pos hb2.2]
      · rw [if_neg (by simpa using hr)]
    · have hb' := hb
      unfold badAt at hb'
      refine Ev.step (ih (i + 1) (by omega) (by omega) (fun j hj => by
        by_cases e : j = i
        · subst e; exact hb
        · exact hg j (by omega))) fun k => ?_
      rw [echo_Validate.l0, if_pos (by omega), if_pos (by omega), if_pos (by omega), within_echo, Option.bind_some, rd_at, if_pos (by simp; omega), wrap_succ (by omega)]
      by_cases hi0 : 0 < i
      · rw [if_pos (by omega), wrap_pred (by omega) hi0, if_pos (by omega), if_pos (by omega), rd_at, if_neg (by omega)]
      · rw [if_neg (by omega)]
theorem validate_ev (l : List Int) : Ev (fun k => echo_Validate.f k l) (vErr l) := by
  unfold echo_Validate.f
  rw [within_echo]
  refine Ev.some_bind ?_
  by_cases h : 1 ≤ l.length ∧ l.length ≤ 6
  · simp only [if_pos (show decide ((1 : Int) ≤ (l.length : Int) ∧ (l.length : Int) ≤ 6) = true by simp; omega)]
    exact validate_l0 l (by omega) h.2 l.length 0 (by omega) (by omega) (fun _ hj => by omega)
  · simp only [if_neg (show ¬ decide ((1 : Int) ≤ (l.length : Int) ∧ (l.length : Int) ≤ 6) = true by simp; omega)]
    have : vErr l = 3 := by unfold vErr; rw [if_pos (by omega)]
    rw [this]
    exact Ev.pure _

theorem rvalidate_l0 (l : List Int) (h0 : 0 < l.length) (h6 : l.length ≤ 6) : ∀ m i, l.length - i = m → i ≤ l.length → goodTo l i → Ev (fun k => diaphoneref05_Validate.l0 k l (i : Int)) (vErr l) := by
  intro m
  induction m with
  | zero =>
    intro i hm hi hg
    have : i = l.length := by omega
    subst this
    refine Ev.step (Ev.pure (vErr l)) fun k => ?_
    rw [diaphoneref05_Validate.l0, if_neg (by omega), if_pos (by rw [wrap_pred (by omega) h0]; omega), if_pos (by rw [wrap_pred (by omega) h0]; omega), if_pos (by omega)]
    exact v_end l h0 h6 hg
  | succ m ih =>
    intro i hm hi hg
    have hlt : i < l.length := by omega
    by_cases hb : badAt l i
    · refine Ev.step (Ev.pure (vErr l)) fun k => ?_
      rw [diaphoneref05_Validate.l0, if_pos (by omega), if_pos (by omega), within_ref, Option.bind_some, v_bad l h0 h6 i hlt hb, rd_at]
      by_cases hr : -60 ≤ at_ l i ∧ at_ l i ≤ 60
      · have hb2 : 0 < i ∧ at_ l i ≤ at_ l (i - 1) := by unfold badAt at hb; omega
        rw [if_pos (by simpa using hr), if_pos (by omega), wrap_pred (by omega) hb2.1, if_pos (by omega), if_pos (by omega), rd_at, if_pos (by omega)]
      · rw [if_neg (by simpa using hr)]
    · have hb' := hb
      unfold badAt at hb'
      refine Ev.step (ih (i + 1) (by omega) (by omega) (fun j hj => by
        by_cases e : j = i
        · subst e; exact hb
        · exact hg j (by omega))) fun k => ?_
      rw [diaphoneref05_Validate.l0, if_pos (by omega), if_pos (by omega), within_ref, Option.bind_some, rd_at, if_pos (by simp; omega), wrap_succ (by omega)]
      by_cases hi0 : 0 < i
      · rw [if_pos (by omega), wrap_pred (by omega) hi0, if_pos (by omega), if_pos (by omega), rd_at, if_neg (by omega)]
      · rw [if_neg (by omega)]
theorem rvalidate_ev (l : List Int) : Ev (fun k => diaphoneref05_Validate.f k l) (vErr l) := by
  unfold diaphoneref05_Validate.f
  rw [within_ref]
  refine Ev.some_bind ?_
  by_cases h : 1 ≤ l.length ∧ l.length ≤ 6
  · simp only [if_pos (show decide ((1 : Int) ≤ (l.length : Int) ∧ (l.length : Int) ≤ 6) = true by simp; omega)]
    exact rvalidate_l0 l (by omega) h.2 l.length 0 (by omega) (by omega) (fun _ hj => by omega)
  · simp only [if_neg (show ¬ decide ((1 : Int) ≤ (l.length : Int) ∧ (l.length : Int) ≤ 6) = true by simp; omega)]
    have : vErr l = 3 := by unfold vErr; rw [if_pos (by omega)]
    rw [this]
    exact Ev.pure _
theorem vErr_zero {l : List Int} (h : vErr l = 0) : V l := by
  unfold vErr at h
  split at h
  · cases h
  · split at h
    · assumption
    · cases h
theorem vErr_of {l : List Int} (h : V l) : vErr l = 0 := by
  unfold vErr
  rw [if_neg (by have := h.pos; have := h.six; omega), if_pos h]
end Go.Proofs.Ytlbhedhbakhhlaa.Q

/- The document's sort by swaps, and when two rows are the same. -/
namespace Go.Proofs.Ytlbhedhbakhhlaa.Q
open Go.RowKit Go.Proofs.YtlbhedhbakhhlaaW.PrintWords Go.Proofs.YtlbhedhbakhhlaaW.PrintLast Go.Proofs.YtlbhedhbakhhlaaW.PrintMore

theorem same_l0 (x y : List Int) (hx : x.length < 9223372036854775807) (hl : x.length = y.length) :
    ∀ m i, x.length - i = m → i ≤ x.length → Ev (fun k => diaphoneref05_SameInts.l0 k x y (i : Int)) (decide (x.drop i = y.drop i)) := by
  intro m
  induction m with
  | zero =>
    intro i hm hi
    rw [List.drop_of_length_le (by omega : x.length ≤ i), List.drop_of_length_le (by omega : y.length ≤ i)]
    refine Ev.step (Ev.pure _) fun k => ?_
    rw [diaphoneref05_SameInts.l0, if_neg (by omega)]
    rfl
  | succ m ih =>
    intro i hm hi
    have hix : i < x.length := by omega
    have hiy : i < y.length := by omega
    rw [List.drop_eq_getElem_cons hix, List.drop_eq_getElem_cons hiy]
    by_cases he : x[i] = y[i]
    · have e : decide (x[i] :: x.drop (i + 1) = y[i] :: y.drop (i + 1)) = decide (x.drop (i + 1) = y.drop (i + 1)) := by simp only [he, List.cons.injEq, true_and]
      rw [e]
      refine Ev.step (ih (i + 1) (by omega) (by omega)) fun k => ?_
      rw [diaphoneref05_SameInts.l0, if_pos (by omega), if_pos (by omega), if_pos (by omega), rd_lt x i hix, rd_lt y i hiy, if_pos he, wrap_succ (by omega)]
    · have e : decide (x[i] :: x.drop (i + 1) = y[i] :: y.drop (i + 1)) = false := by simp only [List.cons.injEq, he, false_and, decide_false]
      rw [e]
      refine Ev.step (Ev.pure _) fun k => ?_
      rw [diaphoneref05_SameInts.l0, if_pos (by omega), if_pos (by omega), if_pos (by omega), rd_lt x i hix, rd_lt y i hiy, if_neg he]
theorem same_ev (x y : List Int) (hx : x.length < 9223372036854775807) : Ev (fun k => diaphoneref05_SameInts.f k x y) (decide (x = y)) := by
  unfold diaphoneref05_SameInts.f
  by_cases hl : x.length = y.length
  · simp only [if_pos (show (x.length : Int) = (y.length : Int) by omega)]
    have := same_l0 x y hx hl x.length 0 (by omega) (by omega)
    simpa using this
  · simp only [if_neg (show ¬ (x.length : Int) = (y.length : Int) by omega)]
    have : x ≠ y := fun h => hl (by rw [h])
    simp only [this, decide_false]
    exact Ev.pure _

def at' (l : List Int) (i : Nat) : Int := l.getD i 0
theorem at'_lt {l : List Int} {i : Nat} (h : i < l.length) : at' l i = l[i] := by
  unfold at'
  rw [List.getD_eq_getElem?_getD, List.getElem?_eq_getElem h]
  rfl
theorem at'_set {l : List Int} {i j : Nat} {x : Int} (h : i < l.length) : at' (l.set i x) j = if j = i then x else at' l j := by
  unfold at'
  rw [List.getD_eq_getElem?_getD, List.getD_eq_getElem?_getD, List.getElem?_set]
  by_cases e : i = j
  · subst e; simp [h]
  · rw [if_neg e, if_neg (Ne.symm e)]

/-- Places a < b up to i are in order, where b is not j. -/
def Near (x : List Int) (i j : Nat) : Prop := ∀ a b, a < b → b ≤ i → b ≠ j → at' x a ≤ at' x b
theorem sorted_end {x l : List Int} (hp : x.Perm l) (hs : ∀ a b, a < b → b < x.length → at' x a ≤ at' x b) : x = isortI l := by
  refine List.Perm.eq_of_pairwise (le := fun a b => leI a b = true) (fun a b _ _ => leI_anti a b) ?_ (sortBy_sorted leI_trans leI_total l) (hp.trans (sortBy_perm leI l).symm)
  rw [List.pairwise_iff_getElem]
  intro a b ha hb hab
  have := hs a b hab hb
  rw [at'_lt ha, at'_lt hb] at this
  simpa [leI] using this
def swapD (x : List Int) (j : Nat) : List Int := (x.set j (at' x (j - 1))).set (j - 1) (at' x j)
theorem swapD_perm {x : List Int} {j : Nat} (h0 : 0 < j) (h : j < x.length) : (swapD x j).Perm x := by
  unfold swapD
  rw [at'_lt h, at'_lt (by omega : j - 1 < x.length)]
  exact List.set_set_perm h (by omega)
theorem swapD_at {x : List Int} {j : Nat} (h0 : 0 < j) (h : j < x.length) (a : Nat) : at' (swapD x j) a = if a = j - 1 then at' x j else if a = j then at' x (j - 1) else at' x a := by
  unfold swapD
  rw [at'_set (by simp; omega), at'_set h]

theorem sorted_l (l : List Int) (hl : l.length < 9223372036854775807) :
    ∀ m i (x : List Int), l.length - i = m → i ≤ l.length → x.Perm l → (∀ a b, a < b → b < i → at' x a ≤ at' x b) → Ev (fun k => diaphoneref05_sorted.l0 k x (i : Int)) (isortI l) := by
  intro m
  induction m with
  | zero =>
    intro i x hm hi hp hs
    have hx : x.length = l.length := hp.length_eq
    have hi' : i = l.length := by omega
    subst hi'
    rw [← sorted_end hp (fun a b hab hb => hs a b hab (by omega))]
    refine Ev.step (Ev.pure x) fun k => ?_
    rw [diaphoneref05_sorted.l0, if_neg (by omega)]
  | succ m ih =>
    intro i x hm hi hp hs
    have hx : x.length = l.length := hp.length_eq
    have key : ∀ j (x : List Int), j ≤ i → x.Perm l → Near x i j → Ev (fun k => diaphoneref05_sorted.l1 k x (i : Int) (j : Int)) (isortI l) := by
      intro j
      induction j with
      | zero =>
        intro x hj hp hn
        refine Ev.step (ih (i + 1) x (by omega) (by omega) hp (fun a b hab hb => hn a b hab (by omega) (by omega))) fun k => ?_
        rw [diaphoneref05_sorted.l1, if_neg (by omega), wrap_succ (by omega)]
      | succ j ihj =>
        intro x hj hp hn
        have hx : x.length = l.length := hp.length_eq
        by_cases hgt : at' x j > at' x (j + 1)
        · refine Ev.step (ihj (swapD x (j + 1)) (by omega) ((swapD_perm (by omega) (by omega)).trans hp) ?_) fun k => ?_
          · intro a b hab hb hne
            rw [swapD_at (by omega) (by omega), swapD_at (by omega) (by omega), Nat.add_sub_cancel, if_neg hne]
            have ha1 := hn a b hab hb
            have ha2 := hn a j
            have ha3 := hn j b
            have ha4 := hn (j + 1) b
            by_cases e1 : b = j + 1
            · subst e1
              rw [if_pos rfl]
              by_cases e2 : a = j
              · subst e2; rw [if_pos rfl]; omega
              · rw [if_neg e2, if_neg (by omega)]
                exact ha2 (by omega) (by omega) (by omega)
            · rw [if_neg e1]
              by_cases e2 : a = j
              · subst e2; rw [if_pos rfl]; exact ha4 (by omega) hb e1
              · rw [if_neg e2]
                by_cases e3 : a = j + 1
                · subst e3; rw [if_pos rfl]; exact ha3 (by omega) hb e1
                · rw [if_neg e3]; exact ha1 e1
          · rw [diaphoneref05_sorted.l1, if_pos (by omega), wrap_pred (by omega) (by omega), if_pos (by omega), if_pos (by omega), if_pos (by omega), if_pos (by omega)]
            rw [if_pos (show rd x ((j + 1 - 1 : Nat) : Int) > rd x ((j + 1 : Nat) : Int) from hgt)]
            rfl
        · refine Ev.step (ih (i + 1) x (by omega) (by omega) hp (fun a b hab hb => ?_)) fun k => ?_
          · by_cases e : b = j + 1
            · subst e
              by_cases e2 : a = j
              · subst e2; omega
              · have := hn a j (by omega) (by omega) (by omega)
                omega
            · exact hn a b hab (by omega) e
          · rw [diaphoneref05_sorted.l1, if_pos (by omega), wrap_pred (by omega) (by omega), if_pos (by omega), if_pos (by omega), if_pos (by omega), if_pos (by omega)]
            rw [if_neg (show ¬ rd x ((j + 1 - 1 : Nat) : Int) > rd x ((j + 1 : Nat) : Int) from hgt), wrap_succ (by omega)]
    refine Ev.step (key i x (Nat.le_refl _) hp (fun a b hab hb hne => hs a b hab (by omega))) fun k => ?_
    rw [diaphoneref05_sorted.l0, if_pos (by omega)]
theorem sorted_ev (l : List Int) (hl : l.length < 17592186044416) : Ev (fun k => diaphoneref05_sorted.f k l) (isortI l) := by
  unfold diaphoneref05_sorted.f
  refine Ev.some_bind ?_
  simp only [List.length_nil, Nat.zero_add, if_pos hl, List.nil_append]
  exact sorted_l l (by omega) l.length 0 l (by omega) (by omega) (.refl _) (fun a b _ hb => by omega)
end Go.Proofs.Ytlbhedhbakhhlaa.Q

namespace Go.Proofs.Ytlbhedhbakhhlaa.Q
open Go.RowKit Go.Proofs.YtlbhedhbakhhlaaW.PrintWords Go.Proofs.YtlbhedhbakhhlaaW.PrintLast Go.Proofs.YtlbhedhbakhhlaaW.PrintMore
attribute [local go_sem] max2_int min2_int max_two min_two max_three min_three max_four min_four   -- for this text's walks alone
set_option linter.unusedVariables false
set_option linter.unusedSimpArgs false

/-! ### diaphoneref05_ruler: function 55 -/
def diaphoneref05_ruler.l0 : Nat → List Int → Int → Option (Bool)
  | 0, _, _ => none
  | k + 1, x3, x4 => if x4 < (x3.length : Int) then (if 0 ≤ x4 then (if 0 ≤ (wrap64 (x4 - 1)) then (if (wrap64 (x4 - 1)) < (x3.length : Int) then (if (rd x3 x4) = (rd x3 (wrap64 (x4 - 1))) then (some false) else (diaphoneref05_ruler.l0 k x3 (wrap64 (x4 + 1)))) else (none)) else (none)) else (none)) else (some true)
def diaphoneref05_ruler.f (k : Nat) (l0 : List Int) : Option (Bool) := (diaphoneref05_delays.f k l0).bind fun t101 => (diaphoneref05_ruler.l0 k t101 1)
theorem diaphoneref05_ruler.mono_l : ∀ k, (∀ y0 y1, LeO (diaphoneref05_ruler.l0 k y0 y1) (diaphoneref05_ruler.l0 (k + 1) y0 y1))
  | 0 => fun _ _ r h => by simp [diaphoneref05_ruler.l0] at h
  | k + 1 => by
    have ih0 := diaphoneref05_ruler.mono_l k
    · intro y0 y1
      unfold diaphoneref05_ruler.l0
      repeat' first
      | (with_reducible exact ih0 _ _)
      | (with_reducible exact diaphoneref05_delays.mono _ _)
      | (with_reducible exact LeO.refl _)
      | (with_reducible exact LeO.none _)
      | (with_reducible refine LeO.ite ?_ ?_)
      | (with_reducible refine LeO.bind ?_ (fun _ => ?_))
      | exact ih0 _ _
      | exact diaphoneref05_delays.mono _ _
      | exact LeO.none _
      | refine LeO.ite ?_ ?_
      | refine LeO.bind ?_ (fun _ => ?_)
theorem diaphoneref05_ruler.mono : ∀ a0 k, LeO (diaphoneref05_ruler.f k a0) (diaphoneref05_ruler.f (k + 1) a0) := by
  intro a0 k
  have ih0 := diaphoneref05_ruler.mono_l k
  unfold diaphoneref05_ruler.f
  repeat' first
      | (with_reducible exact ih0 _ _)
      | (with_reducible exact diaphoneref05_delays.mono _ _)
      | (with_reducible exact LeO.refl _)
      | (with_reducible exact LeO.none _)
      | (with_reducible refine LeO.ite ?_ ?_)
      | (with_reducible refine LeO.bind ?_ (fun _ => ?_))
      | exact ih0 _ _
      | exact diaphoneref05_delays.mono _ _
      | exact LeO.none _
      | refine LeO.ite ?_ ?_
      | refine LeO.bind ?_ (fun _ => ?_)
set_option maxHeartbeats 8000000 in
set_option maxRecDepth 100000 in
theorem diaphoneref05_ruler.calls (k : Nat) (A0 : Option Addr) (c0 : Nat) (l0 : List Int) (r : Bool) (w : World) (hr0 : Kd.C (Kd.int .i64) w A0 l0.length l0) (hc0 : l0.length ≤ c0) (h : diaphoneref05_ruler.f k l0 = some r) :
    Calls Try.prog 55 #[.slice A0 l0.length c0] w fun e w' => e = .returned (.bool r) ∧ Below w.heap.size w w' := by
  have HR0 := Aside0.mk hr0
  have HC0 := Aside0.mk hc0
  clear hr0 hc0
  have HB := Aside0.mk (Below.refl w.heap.size w)
  have H : ((diaphoneref05_delays.f k l0).bind fun t101 => (diaphoneref05_ruler.l0 k t101 1)) = some r := h
  clear h
  replace H := Option.bind_eq_some_iff.mp H
  obtain ⟨t101, A20, H⟩ := H
  replace H : (diaphoneref05_ruler.l0 k t101 1) = some r := H
  have A2 := Aside0.mk A20
  clear A20
  have H' := Aside0.mk H
  clear H
  go_enter Try.func55, Try.ntmps55
  go_wp2_with (first | (go_at_call 53; (with_reducible refine (diaphoneref05_delays.calls k _ _ l0 t101 _ ?side1 ?side2 A2.out).mono ?_); (case side1 => repeat (first | exact HR0.out | (with_reducible refine Kd.C_alloc ?_ _) | (with_reducible refine Kd.C_drewN ?_ _) | (with_reducible refine Kd.C_drew ?_))); (case side2 => exact HC0.out); rintro e w3 ⟨v102, rfl, ho0, hb⟩; have n0_ := Aside0.mk (Kd.R_lower ho0 (below_size (by repeat (first | (with_reducible first | exact HB.out | apply below_alloc | apply pw_below_drewN | apply below_drew1) | exact HB.out)))); have n1_ := Aside0.mk (below_step (by repeat (first | (with_reducible first | exact HB.out | apply below_alloc | apply pw_below_drewN | apply below_drew1) | exact HB.out)) hb); clear HB; have HO103 := n0_; have HB := n1_; clear n0_ n1_; (try clear hb); (try clear hb2); (try clear hk); (try clear hi); (try clear ho0)))
  repeat (go_quiet (first | (go_at_call 53; (with_reducible refine (diaphoneref05_delays.calls k _ _ l0 t101 _ ?side1 ?side2 A2.out).mono ?_); (case side1 => repeat (first | exact HR0.out | (with_reducible refine Kd.C_alloc ?_ _) | (with_reducible refine Kd.C_drewN ?_ _) | (with_reducible refine Kd.C_drew ?_))); (case side2 => exact HC0.out); rintro e w3 ⟨v102, rfl, ho0, hb⟩; have n0_ := Aside0.mk (Kd.R_lower ho0 (below_size (by repeat (first | (with_reducible first | exact HB.out | apply below_alloc | apply pw_below_drewN | apply below_drew1) | exact HB.out)))); have n1_ := Aside0.mk (below_step (by repeat (first | (with_reducible first | exact HB.out | apply below_alloc | apply pw_below_drewN | apply below_drew1) | exact HB.out)) hb); clear HB; have HO103 := n0_; have HB := n1_; clear n0_ n1_; (try clear hb); (try clear hb2); (try clear hk); (try clear hi); (try clear ho0))); try go_wp2_with (first | (go_at_call 53; (with_reducible refine (diaphoneref05_delays.calls k _ _ l0 t101 _ ?side1 ?side2 A2.out).mono ?_); (case side1 => repeat (first | exact HR0.out | (with_reducible refine Kd.C_alloc ?_ _) | (with_reducible refine Kd.C_drewN ?_ _) | (with_reducible refine Kd.C_drew ?_))); (case side2 => exact HC0.out); rintro e w3 ⟨v102, rfl, ho0, hb⟩; have n0_ := Aside0.mk (Kd.R_lower ho0 (below_size (by repeat (first | (with_reducible first | exact HB.out | apply below_alloc | apply pw_below_drewN | apply below_drew1) | exact HB.out)))); have n1_ := Aside0.mk (below_step (by repeat (first | (with_reducible first | exact HB.out | apply below_alloc | apply pw_below_drewN | apply below_drew1) | exact HB.out)) hb); clear HB; have HO103 := n0_; have HB := n1_; clear n0_ n1_; (try clear hb); (try clear hb2); (try clear hk); (try clear hi); (try clear ho0))))
  go_loopg [4] k (fun kq v4 w' => ∃ (x4_1 : Int), v4 = .int .i64 x4_1 ∧ Aside0 (diaphoneref05_ruler.l0 kq t101 x4_1 = some r) ∧ Aside0 (kq ≤ k) ∧ Aside0 (Kd.R (Kd.int .i64) 3 w' w.heap.size (fun _ => True) v102 t101) ∧ Aside0 (Below w.heap.size w w'))
  case atStart => exact ⟨(1), (by first | rfl | (simp; done) | (simp [*]; done)), H', ⟨Nat.le_refl _⟩, ⟨by (with_reducible repeat (first | apply Kd.R_alloc | apply Kd.R_drewN | apply Kd.R_drew)); exact HO103.out⟩, ⟨by repeat (first | (with_reducible first | exact HB.out | apply below_alloc | apply pw_below_drewN | apply below_drew1) | exact HB.out)⟩⟩
  case round =>
    clear H'
    try clear p2
    obtain ⟨x4_1, rfl, HA, HK1, HO_3, HB⟩ := hrel
    cases gk with
    | zero => exact absurd HA.out (by simp [diaphoneref05_ruler.l0])
    | succ k1 =>
      have H := HA.out
      clear HA
      simp only [diaphoneref05_ruler.l0] at H
      by_cases c4 : x4_1 < (t101.length : Int)
      · rw [if_pos c4] at H
        have c4b0 : decide (x4_1 < (t101.length : Int)) = true := decide_eq_true c4
        clear c4
        by_cases c5 : 0 ≤ x4_1
        · rw [if_pos c5] at H
          have c5b0 : decide (0 ≤ x4_1) = true := decide_eq_true c5
          clear c5
          obtain ⟨ji6, hji6⟩ : ∃ j_ : Int, (wrap64 (x4_1 - 1)) = j_ := ⟨_, rfl⟩
          replace H : (if 0 ≤ (ji6) then (if (ji6) < (t101.length : Int) then (if (rd t101 x4_1) = (rd t101 (ji6)) then (some false) else (diaphoneref05_ruler.l0 k1 t101 (wrap64 (x4_1 + 1)))) else (none)) else (none)) = some r := by first | (rw [hji6] at H; exact H) | (simp only [hji6] at H ⊢; exact H)
          have hji6w : (IntKind.i64.wrap (x4_1 - 1)) = ji6 := (i64_w _).trans hji6
          by_cases c7 : 0 ≤ (ji6)
          · rw [if_pos c7] at H
            have c7b0 : decide (0 ≤ (ji6)) = true := decide_eq_true c7
            clear c7
            by_cases c8 : (ji6) < (t101.length : Int)
            · rw [if_pos c8] at H
              have c8b0 : decide ((ji6) < (t101.length : Int)) = true := decide_eq_true c8
              clear c8
              by_cases c9 : (rd t101 x4_1) = (rd t101 (ji6))
              · rw [if_pos c9] at H
                have c9b0 : ((rd t101 x4_1) == (rd t101 (ji6))) = true := beq_iff_eq.mpr c9
                have c9b1 : ((rd t101 x4_1) != (rd t101 (ji6))) = false := bne_eq_false_iff_eq.mpr c9
                clear c9
                obtain rfl := Option.some.inj H
                obtain ⟨Ao10, co10, eo10⟩ := Kd.R_slice HO_3.out
                subst eo10
                have p104 : 0 ≤ (x4_1 : Int) := of_decide_eq_true (by first | (with_reducible assumption) | assumption)
                have q104 : x4_1 < (t101.length : Int) := of_decide_eq_true (by first | (with_reducible assumption) | assumption)
                obtain ⟨ad104, e104, hx104_0⟩ := Kd.at_int (Kd.R_reads' HO_3.out).2.2 x4_1 p104 q104
                cases e104
                replace p104 := eq_true p104
                replace q104 := eq_true q104
                have p105 : 0 ≤ ((ji6) : Int) := of_decide_eq_true (by first | (with_reducible assumption) | assumption)
                have q105 : (ji6) < (t101.length : Int) := of_decide_eq_true (by first | (with_reducible assumption) | assumption)
                obtain ⟨ad105, e105, hx105_0⟩ := Kd.at_int (Kd.R_reads' HO_3.out).2.2 (ji6) p105 q105
                obtain rfl : ad104 = ad105 := (by injection e105)
                replace p105 := eq_true p105
                replace q105 := eq_true q105
                go_wp2
                repeat (go_quiet (fail); try go_wp2)
                go_ret
                exact ⟨by first | rfl | (simp [errW_none, errW_some] <;> rfl) | (simp only [← hji6]; first | rfl | (simp [errW_none, errW_some] <;> rfl)) | (simp [*, errW_none, errW_some] <;> rfl), by repeat (first | (with_reducible first | exact HB.out | apply below_alloc | apply pw_below_drewN | apply below_drew1) | exact HB.out)⟩
              · rw [if_neg c9] at H
                have c9b0 : ((rd t101 x4_1) == (rd t101 (ji6))) = false := beq_eq_false_iff_ne.mpr c9
                have c9b1 : ((rd t101 x4_1) != (rd t101 (ji6))) = true := bne_iff_ne.mpr c9
                have H' := Aside0.mk H
                clear H
                obtain ⟨Ao11, co11, eo11⟩ := Kd.R_slice HO_3.out
                subst eo11
                have p104 : 0 ≤ (x4_1 : Int) := of_decide_eq_true (by first | (with_reducible assumption) | assumption)
                have q104 : x4_1 < (t101.length : Int) := of_decide_eq_true (by first | (with_reducible assumption) | assumption)
                obtain ⟨ad104, e104, hx104_0⟩ := Kd.at_int (Kd.R_reads' HO_3.out).2.2 x4_1 p104 q104
                cases e104
                replace p104 := eq_true p104
                replace q104 := eq_true q104
                have p105 : 0 ≤ ((ji6) : Int) := of_decide_eq_true (by first | (with_reducible assumption) | assumption)
                have q105 : (ji6) < (t101.length : Int) := of_decide_eq_true (by first | (with_reducible assumption) | assumption)
                obtain ⟨ad105, e105, hx105_0⟩ := Kd.at_int (Kd.R_reads' HO_3.out).2.2 (ji6) p105 q105
                obtain rfl : ad104 = ad105 := (by injection e105)
                replace p105 := eq_true p105
                replace q105 := eq_true q105
                go_wp2
                repeat (go_quiet (fail); try go_wp2)
                go_roundg k1
                case measure => have := HK1.out; omega
                case rel => exact ⟨(wrap64 (x4_1 + 1)), (by first | rfl | (simp; done) | (simp [*]; done)), H', ⟨by have := HK1.out; omega⟩, ⟨by (with_reducible repeat (first | apply Kd.R_alloc | apply Kd.R_drewN | apply Kd.R_drew)); exact HO_3.out⟩, ⟨by repeat (first | (with_reducible first | exact HB.out | apply below_alloc | apply pw_below_drewN | apply below_drew1) | exact HB.out)⟩⟩
            · rw [if_neg c8] at H
              exact absurd H (by simp)
          · rw [if_neg c7] at H
            exact absurd H (by simp)
        · rw [if_neg c5] at H
          exact absurd H (by simp)
      · rw [if_neg c4] at H
        have c4b0 : decide (x4_1 < (t101.length : Int)) = false := decide_eq_false c4
        clear c4
        obtain rfl := Option.some.inj H
        obtain ⟨Ao12, co12, eo12⟩ := Kd.R_slice HO_3.out
        subst eo12
        go_wp2
        repeat (go_quiet (fail); try go_wp2)
        go_ret
        exact ⟨by first | rfl | (simp [errW_none, errW_some] <;> rfl) | (simp [*, errW_none, errW_some] <;> rfl), by repeat (first | (with_reducible first | exact HB.out | apply below_alloc | apply pw_below_drewN | apply below_drew1) | exact HB.out)⟩

end Go.Proofs.Ytlbhedhbakhhlaa.Q

namespace Go.Proofs.Ytlbhedhbakhhlaa.Q
open Go.RowKit Go.Proofs.YtlbhedhbakhhlaaW.PrintWords Go.Proofs.YtlbhedhbakhhlaaW.PrintLast Go.Proofs.YtlbhedhbakhhlaaW.PrintMore
attribute [local go_sem] max2_int min2_int max_two min_two max_three min_three max_four min_four   -- for this text's walks alone
set_option linter.unusedVariables false
set_option linter.unusedSimpArgs false

/-! ### echo_Delays: function 17 -/
def echo_Delays.f (k : Nat) (l0 : List Int) : Option (List Int × Int) := (echo_Validate.f k l0).bind fun t101 => (if t101 = 0 then ((echo_delays.f k l0).bind fun t102 => (some (t102, 0))) else (some (([] : List Int), t101)))
theorem echo_Delays.mono : ∀ a0 k, LeO (echo_Delays.f k a0) (echo_Delays.f (k + 1) a0) := by
  intro a0 k
  unfold echo_Delays.f
  repeat' first
      | (with_reducible exact echo_Validate.mono _ _)
      | (with_reducible exact echo_delays.mono _ _)
      | (with_reducible exact LeO.refl _)
      | (with_reducible exact LeO.none _)
      | (with_reducible refine LeO.ite ?_ ?_)
      | (with_reducible refine LeO.bind ?_ (fun _ => ?_))
      | exact echo_Validate.mono _ _
      | exact echo_delays.mono _ _
      | exact LeO.none _
      | refine LeO.ite ?_ ?_
      | refine LeO.bind ?_ (fun _ => ?_)
set_option maxHeartbeats 8000000 in
set_option maxRecDepth 100000 in
theorem echo_Delays.calls (k : Nat) (A0 : Option Addr) (c0 : Nat) (l0 : List Int) (r1 : List Int) (r2 : Int) (w : World) (hr0 : Kd.C (Kd.int .i64) w A0 l0.length l0) (hc0 : l0.length ≤ c0) (h : echo_Delays.f k l0 = some (r1, r2)) :
    Calls Try.prog 17 #[.slice A0 l0.length c0] w fun e w' => ∃ v0_ : Value, e = .returned (.tuple #[v0_, .int .i64 r2]) ∧ Kd.R (Kd.int .i64) 3 w' w.heap.size (fun _ => True) v0_ r1 ∧ Below w.heap.size w w' := by
  have HR0 := Aside0.mk hr0
  have HC0 := Aside0.mk hc0
  clear hr0 hc0
  have HB := Aside0.mk (Below.refl w.heap.size w)
  have H : ((echo_Validate.f k l0).bind fun t101 => (if t101 = 0 then ((echo_delays.f k l0).bind fun t102 => (some (t102, 0))) else (some (([] : List Int), t101)))) = some (r1, r2) := h
  clear h
  replace H := Option.bind_eq_some_iff.mp H
  obtain ⟨t101, A20, H⟩ := H
  replace H : (if t101 = 0 then ((echo_delays.f k l0).bind fun t102 => (some (t102, 0))) else (some (([] : List Int), t101))) = some (r1, r2) := H
  have A2 := Aside0.mk A20
  clear A20
  by_cases c3 : t101 = 0
  · rw [if_pos c3] at H
    have c3b0 : (t101 == 0) = true := beq_iff_eq.mpr c3
    have c3b1 : (t101 != 0) = false := bne_eq_false_iff_eq.mpr c3
    clear c3
    replace H := Option.bind_eq_some_iff.mp H
    obtain ⟨t102, A40, H⟩ := H
    replace H : (some (t102, 0)) = some (r1, r2) := H
    have A4 := Aside0.mk A40
    clear A40
    simp only [Option.some.injEq, Prod.mk.injEq] at H
    obtain ⟨rfl, rfl⟩ := H
    go_enter Try.func17, Try.ntmps17
    go_wp2_with (first | ((with_reducible refine gate_callee (f := 21) rfl ?_); refine goesL_ (some 6) rfl rfl Try.func21 (by kernel_rfl) rfl #[.slice A0 l0.length c0] rfl (by (try simp only [List.map_toArray, List.map_cons, List.map_nil]); first | done | rfl | (simp only [List.length_drop, List.length_take]; rfl)) ?_; (with_reducible refine (echo_Validate.calls k _ _ l0 t101 _ ?side1 ?side2 A2.out).mono ?_); (case side1 => repeat (first | exact HR0.out | (with_reducible refine Kd.C_alloc ?_ _) | (with_reducible refine Kd.C_drewN ?_ _) | (with_reducible refine Kd.C_drew ?_))); (case side2 => exact HC0.out); rintro e w' ⟨rfl, ⟨nd, rfl⟩⟩; refine ⟨_, rfl, ?_⟩) | ((with_reducible refine gate_callee (f := 52) rfl ?_); refine goesL_ (some 11) rfl rfl Try.func52 (by kernel_rfl) rfl #[.slice A0 l0.length c0] rfl (by (try simp only [List.map_toArray, List.map_cons, List.map_nil]); first | done | rfl | (simp only [List.length_drop, List.length_take]; rfl)) ?_; (with_reducible refine (echo_delays.calls k _ _ l0 t102 _ ?side1 ?side2 A4.out).mono ?_); (case side1 => repeat (first | exact HR0.out | (with_reducible refine Kd.C_alloc ?_ _) | (with_reducible refine Kd.C_drewN ?_ _) | (with_reducible refine Kd.C_drew ?_))); (case side2 => exact HC0.out); rintro e w5 ⟨v103, rfl, ho0, hb⟩; refine ⟨_, rfl, ?_⟩; have n0_ := Aside0.mk (Kd.R_lower ho0 (below_size (by repeat (first | (with_reducible first | exact HB.out | apply below_alloc | apply pw_below_drewN | apply below_drew1) | exact HB.out)))); have n1_ := Aside0.mk (below_step (by repeat (first | (with_reducible first | exact HB.out | apply below_alloc | apply pw_below_drewN | apply below_drew1) | exact HB.out)) hb); clear HB; have HO104 := n0_; have HB := n1_; clear n0_ n1_; (try clear hb); (try clear hb2); (try clear hk); (try clear hi); (try clear ho0)))
    go_ret2
    exact ⟨_, by first | rfl | (simp [errW_none, errW_some] <;> rfl) | (simp [*, errW_none, errW_some] <;> rfl), by (with_reducible repeat (first | apply Kd.R_alloc | apply Kd.R_drewN | apply Kd.R_drew)); exact HO104.out, by repeat (first | (with_reducible first | exact HB.out | apply below_alloc | apply pw_below_drewN | apply below_drew1) | exact HB.out)⟩
  · rw [if_neg c3] at H
    have c3b0 : (t101 == 0) = false := beq_eq_false_iff_ne.mpr c3
    have c3b1 : (t101 != 0) = true := bne_iff_ne.mpr c3
    simp only [Option.some.injEq, Prod.mk.injEq] at H
    obtain ⟨rfl, rfl⟩ := H
    go_enter Try.func17, Try.ntmps17
    go_wp2_with (first | ((with_reducible refine gate_callee (f := 21) rfl ?_); refine goesL_ (some 6) rfl rfl Try.func21 (by kernel_rfl) rfl #[.slice A0 l0.length c0] rfl (by (try simp only [List.map_toArray, List.map_cons, List.map_nil]); first | done | rfl | (simp only [List.length_drop, List.length_take]; rfl)) ?_; (with_reducible refine (echo_Validate.calls k _ _ l0 t101 _ ?side1 ?side2 A2.out).mono ?_); (case side1 => repeat (first | exact HR0.out | (with_reducible refine Kd.C_alloc ?_ _) | (with_reducible refine Kd.C_drewN ?_ _) | (with_reducible refine Kd.C_drew ?_))); (case side2 => exact HC0.out); rintro e w' ⟨rfl, ⟨nd, rfl⟩⟩; refine ⟨_, rfl, ?_⟩))
    go_ret2
    exact ⟨_, by first | rfl | (simp [errW_none, errW_some] <;> rfl) | (simp [*, errW_none, errW_some] <;> rfl), by first | exact Kd.R_nil _ _ _ _ _ | exact Kd.N_nil _ _ _ _ _ | exact Kd.V_nil _ _ _ _ _ | exact Kd.Q_nil _ _ _ _ _ | exact Kd.S_nil _ _ _ _ _, by repeat (first | (with_reducible first | exact HB.out | apply below_alloc | apply pw_below_drewN | apply below_drew1) | exact HB.out)⟩

end Go.Proofs.Ytlbhedhbakhhlaa.Q

namespace Go.Proofs.Ytlbhedhbakhhlaa.Q
open Go.RowKit Go.Proofs.YtlbhedhbakhhlaaW.PrintWords Go.Proofs.YtlbhedhbakhhlaaW.PrintLast Go.Proofs.YtlbhedhbakhhlaaW.PrintMore
attribute [local go_sem] max2_int min2_int max_two min_two max_three min_three max_four min_four   -- for this text's walks alone
set_option linter.unusedVariables false
set_option linter.unusedSimpArgs false

/-! ### diaphoneref05_Delays: function 18 -/
def diaphoneref05_Delays.f (k : Nat) (l0 : List Int) : Option (List Int × Int) := (diaphoneref05_Validate.f k l0).bind fun t101 => (if t101 = 0 then ((diaphoneref05_delays.f k l0).bind fun t102 => (some (t102, 0))) else (some (([] : List Int), t101)))
theorem diaphoneref05_Delays.mono : ∀ a0 k, LeO (diaphoneref05_Delays.f k a0) (diaphoneref05_Delays.f (k + 1) a0) := by
  intro a0 k
  unfold diaphoneref05_Delays.f
  repeat' first
      | (with_reducible exact diaphoneref05_Validate.mono _ _)
      | (with_reducible exact diaphoneref05_delays.mono _ _)
      | (with_reducible exact LeO.refl _)
      | (with_reducible exact LeO.none _)
      | (with_reducible refine LeO.ite ?_ ?_)
      | (with_reducible refine LeO.bind ?_ (fun _ => ?_))
      | exact diaphoneref05_Validate.mono _ _
      | exact diaphoneref05_delays.mono _ _
      | exact LeO.none _
      | refine LeO.ite ?_ ?_
      | refine LeO.bind ?_ (fun _ => ?_)
set_option maxHeartbeats 8000000 in
set_option maxRecDepth 100000 in
theorem diaphoneref05_Delays.calls (k : Nat) (A0 : Option Addr) (c0 : Nat) (l0 : List Int) (r1 : List Int) (r2 : Int) (w : World) (hr0 : Kd.C (Kd.int .i64) w A0 l0.length l0) (hc0 : l0.length ≤ c0) (h : diaphoneref05_Delays.f k l0 = some (r1, r2)) :
    Calls Try.prog 18 #[.slice A0 l0.length c0] w fun e w' => ∃ v0_ : Value, e = .returned (.tuple #[v0_, .int .i64 r2]) ∧ Kd.R (Kd.int .i64) 3 w' w.heap.size (fun _ => True) v0_ r1 ∧ Below w.heap.size w w' := by
  have HR0 := Aside0.mk hr0
  have HC0 := Aside0.mk hc0
  clear hr0 hc0
  have HB := Aside0.mk (Below.refl w.heap.size w)
  have H : ((diaphoneref05_Validate.f k l0).bind fun t101 => (if t101 = 0 then ((diaphoneref05_delays.f k l0).bind fun t102 => (some (t102, 0))) else (some (([] : List Int), t101)))) = some (r1, r2) := h
  clear h
  replace H := Option.bind_eq_some_iff.mp H
  obtain ⟨t101, A20, H⟩ := H
  replace H : (if t101 = 0 then ((diaphoneref05_delays.f k l0).bind fun t102 => (some (t102, 0))) else (some (([] : List Int), t101))) = some (r1, r2) := H
  have A2 := Aside0.mk A20
  clear A20
  by_cases c3 : t101 = 0
  · rw [if_pos c3] at H
    have c3b0 : (t101 == 0) = true := beq_iff_eq.mpr c3
    have c3b1 : (t101 != 0) = false := bne_eq_false_iff_eq.mpr c3
    clear c3
    replace H := Option.bind_eq_some_iff.mp H
    obtain ⟨t102, A40, H⟩ := H
    replace H : (some (t102, 0)) = some (r1, r2) := H
    have A4 := Aside0.mk A40
    clear A40
    simp only [Option.some.injEq, Prod.mk.injEq] at H
    obtain ⟨rfl, rfl⟩ := H
    go_enter Try.func18, Try.ntmps18
    go_wp2_with (first | ((with_reducible refine gate_callee (f := 22) rfl ?_); refine goesL_ (some 6) rfl rfl Try.func22 (by kernel_rfl) rfl #[.slice A0 l0.length c0] rfl (by (try simp only [List.map_toArray, List.map_cons, List.map_nil]); first | done | rfl | (simp only [List.length_drop, List.length_take]; rfl)) ?_; (with_reducible refine (diaphoneref05_Validate.calls k _ _ l0 t101 _ ?side1 ?side2 A2.out).mono ?_); (case side1 => repeat (first | exact HR0.out | (with_reducible refine Kd.C_alloc ?_ _) | (with_reducible refine Kd.C_drewN ?_ _) | (with_reducible refine Kd.C_drew ?_))); (case side2 => exact HC0.out); rintro e w' ⟨rfl, ⟨nd, rfl⟩⟩; refine ⟨_, rfl, ?_⟩) | ((with_reducible refine gate_callee (f := 53) rfl ?_); refine goesL_ (some 11) rfl rfl Try.func53 (by kernel_rfl) rfl #[.slice A0 l0.length c0] rfl (by (try simp only [List.map_toArray, List.map_cons, List.map_nil]); first | done | rfl | (simp only [List.length_drop, List.length_take]; rfl)) ?_; (with_reducible refine (diaphoneref05_delays.calls k _ _ l0 t102 _ ?side1 ?side2 A4.out).mono ?_); (case side1 => repeat (first | exact HR0.out | (with_reducible refine Kd.C_alloc ?_ _) | (with_reducible refine Kd.C_drewN ?_ _) | (with_reducible refine Kd.C_drew ?_))); (case side2 => exact HC0.out); rintro e w5 ⟨v103, rfl, ho0, hb⟩; refine ⟨_, rfl, ?_⟩; have n0_ := Aside0.mk (Kd.R_lower ho0 (below_size (by repeat (first | (with_reducible first | exact HB.out | apply below_alloc | apply pw_below_drewN | apply below_drew1) | exact HB.out)))); have n1_ := Aside0.mk (below_step (by repeat (first | (with_reducible first | exact HB.out | apply below_alloc | apply pw_below_drewN | apply below_drew1) | exact HB.out)) hb); clear HB; have HO104 := n0_; have HB := n1_; clear n0_ n1_; (try clear hb); (try clear hb2); (try clear hk); (try clear hi); (try clear ho0)))
    go_ret2
    exact ⟨_, by first | rfl | (simp [errW_none, errW_some] <;> rfl) | (simp [*, errW_none, errW_some] <;> rfl), by (with_reducible repeat (first | apply Kd.R_alloc | apply Kd.R_drewN | apply Kd.R_drew)); exact HO104.out, by repeat (first | (with_reducible first | exact HB.out | apply below_alloc | apply pw_below_drewN | apply below_drew1) | exact HB.out)⟩
  · rw [if_neg c3] at H
    have c3b0 : (t101 == 0) = false := beq_eq_false_iff_ne.mpr c3
    have c3b1 : (t101 != 0) = true := bne_iff_ne.mpr c3
    simp only [Option.some.injEq, Prod.mk.injEq] at H
    obtain ⟨rfl, rfl⟩ := H
    go_enter Try.func18, Try.ntmps18
    go_wp2_with (first | ((with_reducible refine gate_callee (f := 22) rfl ?_); refine goesL_ (some 6) rfl rfl Try.func22 (by kernel_rfl) rfl #[.slice A0 l0.length c0] rfl (by (try simp only [List.map_toArray, List.map_cons, List.map_nil]); first | done | rfl | (simp only [List.length_drop, List.length_take]; rfl)) ?_; (with_reducible refine (diaphoneref05_Validate.calls k _ _ l0 t101 _ ?side1 ?side2 A2.out).mono ?_); (case side1 => repeat (first | exact HR0.out | (with_reducible refine Kd.C_alloc ?_ _) | (with_reducible refine Kd.C_drewN ?_ _) | (with_reducible refine Kd.C_drew ?_))); (case side2 => exact HC0.out); rintro e w' ⟨rfl, ⟨nd, rfl⟩⟩; refine ⟨_, rfl, ?_⟩))
    go_ret2
    exact ⟨_, by first | rfl | (simp [errW_none, errW_some] <;> rfl) | (simp [*, errW_none, errW_some] <;> rfl), by first | exact Kd.R_nil _ _ _ _ _ | exact Kd.N_nil _ _ _ _ _ | exact Kd.V_nil _ _ _ _ _ | exact Kd.Q_nil _ _ _ _ _ | exact Kd.S_nil _ _ _ _ _, by repeat (first | (with_reducible first | exact HB.out | apply below_alloc | apply pw_below_drewN | apply below_drew1) | exact HB.out)⟩

end Go.Proofs.Ytlbhedhbakhhlaa.Q

namespace Go.Proofs.Ytlbhedhbakhhlaa.Q
open Go.RowKit Go.Proofs.YtlbhedhbakhhlaaW.PrintWords Go.Proofs.YtlbhedhbakhhlaaW.PrintLast Go.Proofs.YtlbhedhbakhhlaaW.PrintMore
attribute [local go_sem] max2_int min2_int max_two min_two max_three min_three max_four min_four   -- for this text's walks alone
set_option linter.unusedVariables false
set_option linter.unusedSimpArgs false

/-! ### echo_IsRuler: function 19 -/
def echo_IsRuler.f (k : Nat) (l0 : List Int) : Option (Bool × Int) := (echo_Validate.f k l0).bind fun t101 => (if t101 = 0 then ((echo_isRuler.f k l0).bind fun t102 => (some (t102, 0))) else (some (false, t101)))
theorem echo_IsRuler.mono : ∀ a0 k, LeO (echo_IsRuler.f k a0) (echo_IsRuler.f (k + 1) a0) := by
  intro a0 k
  unfold echo_IsRuler.f
  repeat' first
      | (with_reducible exact echo_Validate.mono _ _)
      | (with_reducible exact echo_isRuler.mono _ _)
      | (with_reducible exact LeO.refl _)
      | (with_reducible exact LeO.none _)
      | (with_reducible refine LeO.ite ?_ ?_)
      | (with_reducible refine LeO.bind ?_ (fun _ => ?_))
      | exact echo_Validate.mono _ _
      | exact echo_isRuler.mono _ _
      | exact LeO.none _
      | refine LeO.ite ?_ ?_
      | refine LeO.bind ?_ (fun _ => ?_)
set_option maxHeartbeats 8000000 in
set_option maxRecDepth 100000 in
theorem echo_IsRuler.calls (k : Nat) (A0 : Option Addr) (c0 : Nat) (l0 : List Int) (r1 : Bool) (r2 : Int) (w : World) (hr0 : Kd.C (Kd.int .i64) w A0 l0.length l0) (hc0 : l0.length ≤ c0) (h : echo_IsRuler.f k l0 = some (r1, r2)) :
    Calls Try.prog 19 #[.slice A0 l0.length c0] w fun e w' => e = .returned (.tuple #[.bool r1, .int .i64 r2]) ∧ Below w.heap.size w w' := by
  have HR0 := Aside0.mk hr0
  have HC0 := Aside0.mk hc0
  clear hr0 hc0
  have HB := Aside0.mk (Below.refl w.heap.size w)
  have H : ((echo_Validate.f k l0).bind fun t101 => (if t101 = 0 then ((echo_isRuler.f k l0).bind fun t102 => (some (t102, 0))) else (some (false, t101)))) = some (r1, r2) := h
  clear h
  replace H := Option.bind_eq_some_iff.mp H
  obtain ⟨t101, A20, H⟩ := H
  replace H : (if t101 = 0 then ((echo_isRuler.f k l0).bind fun t102 => (some (t102, 0))) else (some (false, t101))) = some (r1, r2) := H
  have A2 := Aside0.mk A20
  clear A20
  by_cases c3 : t101 = 0
  · rw [if_pos c3] at H
    have c3b0 : (t101 == 0) = true := beq_iff_eq.mpr c3
    have c3b1 : (t101 != 0) = false := bne_eq_false_iff_eq.mpr c3
    clear c3
    replace H := Option.bind_eq_some_iff.mp H
    obtain ⟨t102, A40, H⟩ := H
    replace H : (some (t102, 0)) = some (r1, r2) := H
    have A4 := Aside0.mk A40
    clear A40
    simp only [Option.some.injEq, Prod.mk.injEq] at H
    obtain ⟨rfl, rfl⟩ := H
    go_enter Try.func19, Try.ntmps19
    go_wp2_with (first | ((with_reducible refine gate_callee (f := 21) rfl ?_); refine goesL_ (some 6) rfl rfl Try.func21 (by kernel_rfl) rfl #[.slice A0 l0.length c0] rfl (by (try simp only [List.map_toArray, List.map_cons, List.map_nil]); first | done | rfl | (simp only [List.length_drop, List.length_take]; rfl)) ?_; (with_reducible refine (echo_Validate.calls k _ _ l0 t101 _ ?side1 ?side2 A2.out).mono ?_); (case side1 => repeat (first | exact HR0.out | (with_reducible refine Kd.C_alloc ?_ _) | (with_reducible refine Kd.C_drewN ?_ _) | (with_reducible refine Kd.C_drew ?_))); (case side2 => exact HC0.out); rintro e w' ⟨rfl, ⟨nd, rfl⟩⟩; refine ⟨_, rfl, ?_⟩) | ((with_reducible refine gate_callee (f := 54) rfl ?_); refine goesL_ (some 11) rfl rfl Try.func54 (by kernel_rfl) rfl #[.slice A0 l0.length c0] rfl (by (try simp only [List.map_toArray, List.map_cons, List.map_nil]); first | done | rfl | (simp only [List.length_drop, List.length_take]; rfl)) ?_; (with_reducible refine (echo_isRuler.calls k _ _ l0 t102 _ ?side1 ?side2 A4.out).mono ?_); (case side1 => repeat (first | exact HR0.out | (with_reducible refine Kd.C_alloc ?_ _) | (with_reducible refine Kd.C_drewN ?_ _) | (with_reducible refine Kd.C_drew ?_))); (case side2 => exact HC0.out); rintro e w5 ⟨rfl, hb⟩; refine ⟨_, rfl, ?_⟩; have n0_ := Aside0.mk (below_step (by repeat (first | (with_reducible first | exact HB.out | apply below_alloc | apply pw_below_drewN | apply below_drew1) | exact HB.out)) hb); clear HB; have HB := n0_; clear n0_; (try clear hb); (try clear hb2); (try clear hk); (try clear hi)))
    go_ret2
    exact ⟨by first | rfl | (simp [errW_none, errW_some] <;> rfl) | (simp [*, errW_none, errW_some] <;> rfl), by repeat (first | (with_reducible first | exact HB.out | apply below_alloc | apply pw_below_drewN | apply below_drew1) | exact HB.out)⟩
  · rw [if_neg c3] at H
    have c3b0 : (t101 == 0) = false := beq_eq_false_iff_ne.mpr c3
    have c3b1 : (t101 != 0) = true := bne_iff_ne.mpr c3
    simp only [Option.some.injEq, Prod.mk.injEq] at H
    obtain ⟨rfl, rfl⟩ := H
    go_enter Try.func19, Try.ntmps19
    go_wp2_with (first | ((with_reducible refine gate_callee (f := 21) rfl ?_); refine goesL_ (some 6) rfl rfl Try.func21 (by kernel_rfl) rfl #[.slice A0 l0.length c0] rfl (by (try simp only [List.map_toArray, List.map_cons, List.map_nil]); first | done | rfl | (simp only [List.length_drop, List.length_take]; rfl)) ?_; (with_reducible refine (echo_Validate.calls k _ _ l0 t101 _ ?side1 ?side2 A2.out).mono ?_); (case side1 => repeat (first | exact HR0.out | (with_reducible refine Kd.C_alloc ?_ _) | (with_reducible refine Kd.C_drewN ?_ _) | (with_reducible refine Kd.C_drew ?_))); (case side2 => exact HC0.out); rintro e w' ⟨rfl, ⟨nd, rfl⟩⟩; refine ⟨_, rfl, ?_⟩))
    go_ret2
    exact ⟨by first | rfl | (simp [errW_none, errW_some] <;> rfl) | (simp [*, errW_none, errW_some] <;> rfl), by repeat (first | (with_reducible first | exact HB.out | apply below_alloc | apply pw_below_drewN | apply below_drew1) | exact HB.out)⟩

end Go.Proofs.Ytlbhedhbakhhlaa.Q

namespace Go.Proofs.Ytlbhedhbakhhlaa.Q
open Go.RowKit Go.Proofs.YtlbhedhbakhhlaaW.PrintWords Go.Proofs.YtlbhedhbakhhlaaW.PrintLast Go.Proofs.YtlbhedhbakhhlaaW.PrintMore
attribute [local go_sem] max2_int min2_int max_two min_two max_three min_three max_four min_four   -- for this text's walks alone
set_option linter.unusedVariables false
set_option linter.unusedSimpArgs false

/-! ### diaphoneref05_IsRuler: function 20 -/
def diaphoneref05_IsRuler.f (k : Nat) (l0 : List Int) : Option (Bool × Int) := (diaphoneref05_Validate.f k l0).bind fun t101 => (if t101 = 0 then ((diaphoneref05_ruler.f k l0).bind fun t102 => (some (t102, 0))) else (some (false, t101)))
theorem diaphoneref05_IsRuler.mono : ∀ a0 k, LeO (diaphoneref05_IsRuler.f k a0) (diaphoneref05_IsRuler.f (k + 1) a0) := by
  intro a0 k
  unfold diaphoneref05_IsRuler.f
  repeat' first
      | (with_reducible exact diaphoneref05_Validate.mono _ _)
      | (with_reducible exact diaphoneref05_ruler.mono _ _)
      | (with_reducible exact LeO.refl _)
      | (with_reducible exact LeO.none _)
      | (with_reducible refine LeO.ite ?_ ?_)
      | (with_reducible refine LeO.bind ?_ (fun _ => ?_))
      | exact diaphoneref05_Validate.mono _ _
      | exact diaphoneref05_ruler.mono _ _
      | exact LeO.none _
      | refine LeO.ite ?_ ?_
      | refine LeO.bind ?_ (fun _ => ?_)
set_option maxHeartbeats 8000000 in
set_option maxRecDepth 100000 in
theorem diaphoneref05_IsRuler.calls (k : Nat) (A0 : Option Addr) (c0 : Nat) (l0 : List Int) (r1 : Bool) (r2 : Int) (w : World) (hr0 : Kd.C (Kd.int .i64) w A0 l0.length l0) (hc0 : l0.length ≤ c0) (h : diaphoneref05_IsRuler.f k l0 = some (r1, r2)) :
    Calls Try.prog 20 #[.slice A0 l0.length c0] w fun e w' => e = .returned (.tuple #[.bool r1, .int .i64 r2]) ∧ Below w.heap.size w w' := by
  have HR0 := Aside0.mk hr0
  have HC0 := Aside0.mk hc0
  clear hr0 hc0
  have HB := Aside0.mk (Below.refl w.heap.size w)
  have H : ((diaphoneref05_Validate.f k l0).bind fun t101 => (if t101 = 0 then ((diaphoneref05_ruler.f k l0).bind fun t102 => (some (t102, 0))) else (some (false, t101)))) = some (r1, r2) := h
  clear h
  replace H := Option.bind_eq_some_iff.mp H
  obtain ⟨t101, A20, H⟩ := H
  replace H : (if t101 = 0 then ((diaphoneref05_ruler.f k l0).bind fun t102 => (some (t102, 0))) else (some (false, t101))) = some (r1, r2) := H
  have A2 := Aside0.mk A20
  clear A20
  by_cases c3 : t101 = 0
  · rw [if_pos c3] at H
    have c3b0 : (t101 == 0) = true := beq_iff_eq.mpr c3
    have c3b1 : (t101 != 0) = false := bne_eq_false_iff_eq.mpr c3
    clear c3
    replace H := Option.bind_eq_some_iff.mp H
    obtain ⟨t102, A40, H⟩ := H
    replace H : (some (t102, 0)) = some (r1, r2) := H
    have A4 := Aside0.mk A40
    clear A40
    simp only [Option.some.injEq, Prod.mk.injEq] at H
    obtain ⟨rfl, rfl⟩ := H
    go_enter Try.func20, Try.ntmps20
    go_wp2_with (first | ((with_reducible refine gate_callee (f := 22) rfl ?_); refine goesL_ (some 6) rfl rfl Try.func22 (by kernel_rfl) rfl #[.slice A0 l0.length c0] rfl (by (try simp only [List.map_toArray, List.map_cons, List.map_nil]); first | done | rfl | (simp only [List.length_drop, List.length_take]; rfl)) ?_; (with_reducible refine (diaphoneref05_Validate.calls k _ _ l0 t101 _ ?side1 ?side2 A2.out).mono ?_); (case side1 => repeat (first | exact HR0.out | (with_reducible refine Kd.C_alloc ?_ _) | (with_reducible refine Kd.C_drewN ?_ _) | (with_reducible refine Kd.C_drew ?_))); (case side2 => exact HC0.out); rintro e w' ⟨rfl, ⟨nd, rfl⟩⟩; refine ⟨_, rfl, ?_⟩) | ((with_reducible refine gate_callee (f := 55) rfl ?_); refine goesL_ (some 11) rfl rfl Try.func55 (by kernel_rfl) rfl #[.slice A0 l0.length c0] rfl (by (try simp only [List.map_toArray, List.map_cons, List.map_nil]); first | done | rfl | (simp only [List.length_drop, List.length_take]; rfl)) ?_; (with_reducible refine (diaphoneref05_ruler.calls k _ _ l0 t102 _ ?side1 ?side2 A4.out).mono ?_); (case side1 => repeat (first | exact HR0.out | (with_reducible refine Kd.C_alloc ?_ _) | (with_reducible refine Kd.C_drewN ?_ _) | (with_reducible refine Kd.C_drew ?_))); (case side2 => exact HC0.out); rintro e w5 ⟨rfl, hb⟩; refine ⟨_, rfl, ?_⟩; have n0_ := Aside0.mk (below_step (by repeat (first | (with_reducible first | exact HB.out | apply below_alloc | apply pw_below_drewN | apply below_drew1) | exact HB.out)) hb); clear HB; have HB := n0_; clear n0_; (try clear hb); (try clear hb2); (try clear hk); (try clear hi)))
    go_ret2
    exact ⟨by first | rfl | (simp [errW_none, errW_some] <;> rfl) | (simp [*, errW_none, errW_some] <;> rfl), by repeat (first | (with_reducible first | exact HB.out | apply below_alloc | apply pw_below_drewN | apply below_drew1) | exact HB.out)⟩
  · rw [if_neg c3] at H
    have c3b0 : (t101 == 0) = false := beq_eq_false_iff_ne.mpr c3
    have c3b1 : (t101 != 0) = true := bne_iff_ne.mpr c3
    simp only [Option.some.injEq, Prod.mk.injEq] at H
    obtain ⟨rfl, rfl⟩ := H
    go_enter Try.func20, Try.ntmps20
    go_wp2_with (first | ((with_reducible refine gate_callee (f := 22) rfl ?_); refine goesL_ (some 6) rfl rfl Try.func22 (by kernel_rfl) rfl #[.slice A0 l0.length c0] rfl (by (try simp only [List.map_toArray, List.map_cons, List.map_nil]); first | done | rfl | (simp only [List.length_drop, List.length_take]; rfl)) ?_; (with_reducible refine (diaphoneref05_Validate.calls k _ _ l0 t101 _ ?side1 ?side2 A2.out).mono ?_); (case side1 => repeat (first | exact HR0.out | (with_reducible refine Kd.C_alloc ?_ _) | (with_reducible refine Kd.C_drewN ?_ _) | (with_reducible refine Kd.C_drew ?_))); (case side2 => exact HC0.out); rintro e w' ⟨rfl, ⟨nd, rfl⟩⟩; refine ⟨_, rfl, ?_⟩))
    go_ret2
    exact ⟨by first | rfl | (simp [errW_none, errW_some] <;> rfl) | (simp [*, errW_none, errW_some] <;> rfl), by repeat (first | (with_reducible first | exact HB.out | apply below_alloc | apply pw_below_drewN | apply below_drew1) | exact HB.out)⟩

end Go.Proofs.Ytlbhedhbakhhlaa.Q

/- The delays, by the code and by the document, and whether none comes twice. -/
namespace Go.Proofs.Ytlbhedhbakhhlaa.Q
open Go.RowKit Go.Proofs.YtlbhedhbakhhlaaW.PrintWords Go.Proofs.YtlbhedhbakhhlaaW.PrintLast Go.Proofs.YtlbhedhbakhhlaaW.PrintMore

/-- Few numbers, all small. -/
structure Small (c : List Int) : Prop where
  len : c.length ≤ 1000
  at_ : ∀ i, -1000000 ≤ at_ c i ∧ at_ c i ≤ 1000000
theorem at_ge (l : List Int) (i : Nat) (h : l.length ≤ i) : at_ l i = 0 := by
  unfold at_
  rw [List.getD_eq_getElem?_getD, List.getElem?_eq_none h]
  rfl
theorem V.small {c : List Int} (h : V c) : Small c where
  len := by have := h.six; omega
  at_ := fun i => by
    by_cases hi : i < c.length
    · have := h.range hi; omega
    · rw [at_ge c i (by omega)]; omega

def dif (c : List Int) (a b : Nat) : Int := at_ c a - at_ c b
/-- The delays of the first n cliffs. -/
def D (c : List Int) : Nat → List Int
  | 0 => []
  | n + 1 => D c n ++ (List.range n).map (dif c n)
theorem D_len (c : List Int) : ∀ n, n ≤ 1000 → (D c n).length ≤ n * 1000
  | 0, _ => by simp [D]
  | n + 1, h => by
    have := D_len c n (by omega)
    simp only [D, List.length_append, List.length_map, List.length_range]
    omega
theorem dif_wrap {c : List Int} (h : Small c) (a b : Nat) : wrap64 (at_ c a - at_ c b) = dif c a b := by
  have h1 := h.at_ a
  have h2 := h.at_ b
  exact wrap_of (by omega) (by omega)
theorem part_succ (c : List Int) (i j : Nat) : D c i ++ (List.range (j + 1)).map (dif c i) = (D c i ++ (List.range j).map (dif c i)) ++ [dif c i j] := by
  rw [List.range_succ, List.map_append, List.append_assoc]
  rfl
theorem part_len {c : List Int} (h : Small c) (i j : Nat) (hi : i ≤ 1000) (hj : j ≤ 1000) : (D c i ++ (List.range j).map (dif c i)).length < 17592186044416 := by
  have := D_len c i hi
  simp only [List.length_append, List.length_map, List.length_range]
  omega
theorem sort_ev (l : List Int) (h : l.length < 17592186044416) : slices_Sort_int_int.f l = some (isortI l) := by
  unfold slices_Sort_int_int.f
  rw [if_pos h]
theorem rd_take (c : List Int) (i j : Nat) (h : j < i) : rd (c.take i) (j : Int) = at_ c j := by
  show (c.take i).getD j 0 = c.getD j 0
  rw [List.getD_eq_getElem?_getD, List.getD_eq_getElem?_getD, List.getElem?_take_of_lt h]

theorem delays_l0 {c : List Int} (h : Small c) : ∀ m i, c.length - i = m → i ≤ c.length → Ev (fun k => echo_delays.l0 k c (D c i) c (c.length : Int) (i : Int)) (isortI (D c c.length)) := by
  have hlen := h.len
  intro m
  induction m with
  | zero =>
    intro i hm hi
    have : i = c.length := by omega
    subst this
    refine Ev.step (Ev.pure _) fun k => ?_
    have := D_len c c.length h.len
    rw [echo_delays.l0, if_neg (by omega), sort_ev _ (by omega)]
    rfl
  | succ m ih =>
    intro i hm hi
    have key : ∀ m' j, i - j = m' → j ≤ i → Ev (fun k => echo_delays.l1 k c (D c i ++ (List.range j).map (dif c i)) (at_ c i) c (c.length : Int) (i : Int) (c.take i) ((c.take i).length : Int) (j : Int)) (isortI (D c c.length)) := by
      intro m'
      induction m' with
      | zero =>
        intro j hm' hj
        have : j = i := by omega
        subst this
        refine Ev.step (ih (j + 1) (by omega) (by omega)) fun k => ?_
        rw [echo_delays.l1, if_neg (by rw [List.length_take]; omega), wrap_succ (by omega)]
        rfl
      | succ m' ih' =>
        intro j hm' hj
        refine Ev.step (ih' (j + 1) (by omega) (by omega)) fun k => ?_
        rw [echo_delays.l1, if_pos (by rw [List.length_take]; omega), if_pos (by omega), if_pos (by rw [List.length_take]; omega), if_pos (part_len h i j (by omega) (by omega)), rd_take c i j (by omega), dif_wrap h, wrap_succ (by omega), ← part_succ]
    refine Ev.step (key i 0 (by omega) (by omega)) fun k => ?_
    rw [echo_delays.l0, if_pos (by omega), if_pos (by omega), if_pos (by omega), if_pos (by omega), Int.toNat_natCast, rd_at]
    simp
theorem delays_ev {c : List Int} (h : Small c) : Ev (fun k => echo_delays.f k c) (isortI (D c c.length)) := by
  unfold echo_delays.f
  exact delays_l0 h c.length 0 (by omega) (by omega)

theorem rdelays_l0 {c : List Int} (h : Small c) : ∀ m i, c.length - i = m → i ≤ c.length → Ev (fun k => diaphoneref05_delays.l0 k c (D c i) (i : Int)) (isortI (D c c.length)) := by
  have hlen := h.len
  intro m
  induction m with
  | zero =>
    intro i hm hi
    have : i = c.length := by omega
    subst this
    have := D_len c c.length h.len
    refine Ev.step (Ev.bind (sorted_ev (D c c.length) (by omega)) (Ev.pure _)) fun k => ?_
    rw [diaphoneref05_delays.l0, if_neg (by omega)]
  | succ m ih =>
    intro i hm hi
    have key : ∀ m' j, i - j = m' → j ≤ i → Ev (fun k => diaphoneref05_delays.l1 k c (D c i ++ (List.range j).map (dif c i)) (i : Int) (j : Int)) (isortI (D c c.length)) := by
      intro m'
      induction m' with
      | zero =>
        intro j hm' hj
        have : j = i := by omega
        subst this
        refine Ev.step (ih (j + 1) (by omega) (by omega)) fun k => ?_
        rw [diaphoneref05_delays.l1, if_neg (by omega), wrap_succ (by omega)]
        rfl
      | succ m' ih' =>
        intro j hm' hj
        refine Ev.step (ih' (j + 1) (by omega) (by omega)) fun k => ?_
        rw [diaphoneref05_delays.l1, if_pos (by omega), if_pos (by omega), if_pos (by omega), if_pos (by omega), if_pos (by omega), if_pos (part_len h i j (by omega) (by omega)), rd_at, rd_at, dif_wrap h, wrap_succ (by omega), ← part_succ]
    refine Ev.step (key i 0 (by omega) (by omega)) fun k => ?_
    rw [diaphoneref05_delays.l0, if_pos (by omega)]
    simp
theorem rdelays_ev {c : List Int} (h : Small c) : Ev (fun k => diaphoneref05_delays.f k c) (isortI (D c c.length)) := by
  unfold diaphoneref05_delays.f
  exact rdelays_l0 h c.length 0 (by omega) (by omega)

/-- All delays, sorted. -/
def dl (c : List Int) : List Int := isortI (D c c.length)
theorem dl_len {c : List Int} (h : Small c) : (dl c).length ≤ 1000000 := by
  unfold dl isortI
  rw [(sortBy_perm leI _).length_eq]
  have := D_len c c.length h.len
  have := h.len
  omega

/-! ### None twice -/
def allKept (s : List Int) : Prop := ∀ j, j < s.length → Lib.keeps s.toArray j = true
instance (s : List Int) : Decidable (allKept s) := inferInstanceAs (Decidable (∀ j, j < s.length → Lib.keeps s.toArray j = true))
theorem compact_len (s : List Int) : (Lib.compact s).length = s.length ↔ allKept s := by
  unfold Lib.compact Lib.compactUpTo
  rw [List.length_map]
  have h : ((List.range s.length).filter (Lib.keeps s.toArray)).length = (List.range s.length).length ↔ ∀ a ∈ List.range s.length, Lib.keeps s.toArray a = true := List.length_filter_eq_length_iff
  rw [List.length_range] at h
  rw [h]
  simp [allKept]
theorem compact_le (s : List Int) : (Lib.compact s).length ≤ s.length := by
  unfold Lib.compact Lib.compactUpTo
  rw [List.length_map]
  have := List.length_filter_le (Lib.keeps s.toArray) (List.range s.length)
  simpa using this
theorem keeps_at (s : List Int) (j : Nat) (hj : j < s.length) : Lib.keeps s.toArray j = decide (j = 0 ∨ at_ s j ≠ at_ s (j - 1)) := by
  unfold Lib.keeps
  have e : ∀ i, i < s.length → s.toArray[i]! = at_ s i := fun i hi => by
    rw [getElem!_pos _ _ (by simpa using hi), at_lt s i hi]
    simp
  rw [e j hj, e (j - 1) (by omega)]
theorem isRuler_ev {c : List Int} (h : Small c) : Ev (fun k => echo_isRuler.f k c) (decide (allKept (dl c))) := by
  unfold echo_isRuler.f
  refine Ev.bind (delays_ev h) ?_
  have hl := dl_len h
  unfold dl at hl
  unfold slices_Clone_int_int.f slices_Compact_int_int.f
  simp only [if_pos (show (isortI (D c c.length)).length < 17592186044416 by omega), Option.bind_some]
  have e : (((Lib.compact (isortI (D c c.length))).length : Int) == ((isortI (D c c.length)).length : Int)) = decide (allKept (dl c)) := by
    rw [Bool.eq_iff_iff]
    simp only [beq_iff_eq, decide_eq_true_eq]
    rw [← compact_len]
    unfold dl
    omega
  rw [e]
  exact Ev.pure _
theorem ruler_l0 (s : List Int) (hs : s.length ≤ 1000000) : ∀ m i, s.length - i = m → 0 < i → (∀ j, j < i → j < s.length → Lib.keeps s.toArray j = true) → Ev (fun k => diaphoneref05_ruler.l0 k s (i : Int)) (decide (allKept s)) := by
  intro m
  induction m with
  | zero =>
    intro i hm hi hk
    have e : decide (allKept s) = true := decide_eq_true (fun j hj => hk j (by omega) hj)
    rw [e]
    refine Ev.step (Ev.pure _) fun k => ?_
    rw [diaphoneref05_ruler.l0, if_neg (by omega)]
  | succ m ih =>
    intro i hm hi hk
    by_cases he : at_ s i = at_ s (i - 1)
    · have e : decide (allKept s) = false := decide_eq_false (fun hall => by
        have := hall i (by omega)
        rw [keeps_at s i (by omega), decide_eq_true_eq] at this
        omega)
      rw [e]
      refine Ev.step (Ev.pure _) fun k => ?_
      rw [diaphoneref05_ruler.l0, if_pos (by omega), if_pos (by omega), wrap_pred (by omega) hi, if_pos (by omega), if_pos (by omega), rd_at, rd_at, if_pos he]
    · refine Ev.step (ih (i + 1) (by omega) (by omega) (fun j hj hjl => ?_)) fun k => ?_
      · by_cases e : j = i
        · subst e
          rw [keeps_at s j hjl]
          simp [he]
        · exact hk j (by omega) hjl
      · rw [diaphoneref05_ruler.l0, if_pos (by omega), if_pos (by omega), wrap_pred (by omega) hi, if_pos (by omega), if_pos (by omega), rd_at, rd_at, if_neg he, wrap_succ (by omega)]
theorem ruler_ev {c : List Int} (h : Small c) : Ev (fun k => diaphoneref05_ruler.f k c) (decide (allKept (dl c))) := by
  unfold diaphoneref05_ruler.f
  exact Ev.bind (rdelays_ev h) (ruler_l0 (dl c) (dl_len h) _ 1 rfl (by omega) (fun j hj hl => by
    have : j = 0 := by omega
    subst this
    rw [keeps_at _ _ hl]
    simp))

/-! ### Delays and IsRuler -/
theorem Delays_ev (c : List Int) : Ev (fun k => echo_Delays.f k c) (if vErr c = 0 then dl c else [], vErr c) := by
  unfold echo_Delays.f
  refine Ev.bind (validate_ev c) ?_
  by_cases h : vErr c = 0
  · simp only [if_pos h]
    rw [h]
    exact Ev.bind (delays_ev (vErr_zero h).small) (Ev.pure _)
  · simp only [if_neg h]
    exact Ev.pure _
theorem RDelays_ev (c : List Int) : Ev (fun k => diaphoneref05_Delays.f k c) (if vErr c = 0 then dl c else [], vErr c) := by
  unfold diaphoneref05_Delays.f
  refine Ev.bind (rvalidate_ev c) ?_
  by_cases h : vErr c = 0
  · simp only [if_pos h]
    rw [h]
    exact Ev.bind (rdelays_ev (vErr_zero h).small) (Ev.pure _)
  · simp only [if_neg h]
    exact Ev.pure _
theorem IsRuler_ev (c : List Int) : Ev (fun k => echo_IsRuler.f k c) (if vErr c = 0 then decide (allKept (dl c)) else false, vErr c) := by
  unfold echo_IsRuler.f
  refine Ev.bind (validate_ev c) ?_
  by_cases h : vErr c = 0
  · simp only [if_pos h]
    rw [h]
    exact Ev.bind (isRuler_ev (vErr_zero h).small) (Ev.pure _)
  · simp only [if_neg h]
    exact Ev.pure _
theorem RIsRuler_ev (c : List Int) : Ev (fun k => diaphoneref05_IsRuler.f k c) (if vErr c = 0 then decide (allKept (dl c)) else false, vErr c) := by
  unfold diaphoneref05_IsRuler.f
  refine Ev.bind (rvalidate_ev c) ?_
  by_cases h : vErr c = 0
  · simp only [if_pos h]
    rw [h]
    exact Ev.bind (ruler_ev (vErr_zero h).small) (Ev.pure _)
  · simp only [if_neg h]
    exact Ev.pure _
end Go.Proofs.Ytlbhedhbakhhlaa.Q

/- The differences of the pairs of a row: what moving and mirroring do to them. -/
namespace Go.Proofs.Ytlbhedhbakhhlaa.Q
open Go.RowKit Go.Proofs.YtlbhedhbakhhlaaW.PrintWords Go.Proofs.YtlbhedhbakhhlaaW.PrintLast Go.Proofs.YtlbhedhbakhhlaaW.PrintMore

theorem isortI_perm (l : List Int) : (isortI l).Perm l := sortBy_perm leI l
theorem isortI_sorted (l : List Int) : (isortI l).Pairwise (fun a b => a ≤ b) := by
  have := sortBy_sorted leI_trans leI_total l
  exact this.imp (fun h => by simpa [leI] using h)
theorem isortI_uniq {s l : List Int} (hp : s.Perm l) (hs : s.Pairwise (fun a b => a ≤ b)) : s = isortI l :=
  List.Perm.eq_of_pairwise (le := fun a b => a ≤ b) (fun a b _ _ h1 h2 => by omega) hs (isortI_sorted l) (hp.trans (isortI_perm l).symm)
theorem isortI_congr {l m : List Int} (h : l.Perm m) : isortI l = isortI m := isortI_uniq ((isortI_perm l).trans h) (isortI_sorted l)

/-- All differences of a later and an earlier one. -/
def P : List Int → List Int
  | [] => []
  | a :: t => t.map (fun x => x - a) ++ P t
theorem P_snoc : ∀ (l : List Int) (b : Int), (P (l ++ [b])).Perm (l.map (fun x => b - x) ++ P l)
  | [], b => by simp [P]
  | a :: t, b => by
    have ih := P_snoc t b
    simp only [List.cons_append, P, List.map_append, List.map_cons, List.map_nil, List.append_assoc]
    -- (t - a) ++ [b - a] ++ P (t ++ [b])  ~  (b - a) :: ((b - t) ++ ((t - a) ++ P t))
    have sw : ∀ X Y Z : List Int, (X ++ (Y ++ Z)).Perm (Y ++ (X ++ Z)) := fun X Y Z => by
      have := (List.perm_append_comm (l₁ := X) (l₂ := Y)).append_right Z
      simpa only [List.append_assoc] using this
    refine ((ih.append_left [b - a]).append_left _).trans ?_
    refine (sw _ [b - a] _).trans ?_
    exact (sw _ (t.map (fun x => b - x)) _).append_left [b - a]
theorem P_mirror (s : Int) : ∀ l : List Int, (P (l.reverse.map (fun x => s - x))).Perm (P l)
  | [] => by simp
  | a :: t => by
    rw [List.reverse_cons, List.map_append, List.map_cons, List.map_nil]
    refine (P_snoc _ _).trans ?_
    rw [List.map_map, P]
    refine List.Perm.append ?_ (P_mirror s t)
    have e : ((fun x => s - a - x) ∘ fun x => s - x) = fun x => x - a := by
      funext x
      simp only [Function.comp]
      omega
    rw [e, List.map_reverse]
    exact List.reverse_perm _
theorem P_shift (b : Int) : ∀ l : List Int, P (l.map (fun x => x + b)) = P l
  | [] => rfl
  | a :: t => by
    rw [List.map_cons, P, P_shift b t, P, List.map_map]
    congr 1
    apply List.map_congr_left
    intro x _
    simp only [Function.comp]
    omega
theorem P_scale (b : Int) : ∀ l : List Int, P (l.map (fun x => x * b)) = (P l).map (fun x => b * x)
  | [] => rfl
  | a :: t => by
    rw [List.map_cons, P, P_scale b t, P, List.map_append, List.map_map, List.map_map]
    congr 1
    apply List.map_congr_left
    intro x _
    simp only [Function.comp]
    rw [Int.mul_sub, Int.mul_comm x b, Int.mul_comm a b]

theorem at_append_left (l : List Int) (b : Int) (i : Nat) (h : i < l.length) : at_ (l ++ [b]) i = at_ l i := by
  rw [at_lt _ _ (by simp; omega), at_lt _ _ h, List.getElem_append_left h]
theorem at_append_last (l : List Int) (b : Int) : at_ (l ++ [b]) l.length = b := by
  rw [at_lt _ _ (by simp)]
  simp
theorem D_append (l : List Int) (b : Int) : ∀ m, m ≤ l.length → D (l ++ [b]) m = D l m
  | 0, _ => rfl
  | m + 1, h => by
    rw [D, D, D_append l b m (by omega)]
    congr 1
    apply List.map_congr_left
    intro j hj
    have := List.mem_range.1 hj
    unfold dif
    rw [at_append_left l b m (by omega), at_append_left l b j (by omega)]
theorem range_at (l : List Int) : (List.range l.length).map (fun j => at_ l j) = l := by
  apply List.ext_getElem
  · simp
  · intro i h1 h2
    simp only [List.getElem_map, List.getElem_range]
    exact at_lt l i h2
theorem D_snoc (l : List Int) (b : Int) : D (l ++ [b]) (l ++ [b]).length = D l l.length ++ l.map (fun x => b - x) := by
  rw [List.length_append, List.length_singleton, D, D_append l b _ (Nat.le_refl _)]
  congr 1
  have : (List.range l.length).map (dif (l ++ [b]) l.length) = (List.range l.length).map ((fun x => b - x) ∘ fun j => at_ l j) := by
    apply List.map_congr_left
    intro j hj
    have := List.mem_range.1 hj
    unfold dif
    rw [at_append_last, at_append_left l b j this]
    rfl
  rw [this, ← List.map_map, range_at]
theorem D_P (c : List Int) : (D c c.length).Perm (P c) := by
  have key : ∀ n (c : List Int), c.length = n → (D c c.length).Perm (P c) := by
    intro n
    induction n with
    | zero =>
      intro c h
      obtain rfl := List.length_eq_zero_iff.1 h
      exact .refl _
    | succ n ih =>
      intro c h
      have hne : c ≠ [] := fun e => by rw [e] at h; cases h
      obtain ⟨l, b, rfl⟩ : ∃ l b, c = l ++ [b] := ⟨c.dropLast, c.getLast hne, (List.dropLast_concat_getLast hne).symm⟩
      rw [D_snoc]
      refine List.Perm.trans ?_ (P_snoc l b).symm
      refine List.perm_append_comm.trans ?_
      exact (ih l (by simpa using h)).append_left _
  exact key c.length c rfl
/-- The delays by the pairs. -/
theorem dl_P (c : List Int) : dl c = isortI (P c) := isortI_congr (D_P c)
theorem dl_shift (c : List Int) (b : Int) : dl (c.map fun x => x + b) = dl c := by rw [dl_P, dl_P, P_shift]
theorem dl_mirror (c : List Int) (s : Int) : dl (c.reverse.map fun x => s - x) = dl c := by rw [dl_P, dl_P, isortI_congr (P_mirror s c)]
end Go.Proofs.Ytlbhedhbakhhlaa.Q

/- The chapter's examples hold. -/
namespace Go.Proofs.Ytlbhedhbakhhlaa.Q
open Go.RowKit Go.Proofs.YtlbhedhbakhhlaaW.PrintWords Go.Proofs.YtlbhedhbakhhlaaW.PrintLast Go.Proofs.YtlbhedhbakhhlaaW.PrintMore

theorem Ev.mono {α : Type} {f : Nat → Option α} {r : α} (hm : ∀ k, LeO (f k) (f (k + 1))) (K : Nat) (h : f K = some r) : Ev f r := by
  refine ⟨K, fun k hk => ?_⟩
  induction k with
  | zero => obtain rfl : K = 0 := by omega
            exact h
  | succ k ih =>
    by_cases e : K = k + 1
    · rw [← e]; exact h
    · exact hm k r (ih (by omega))
set_option maxRecDepth 100000 in
theorem sane_60 : diaphonelaw05_sane.f 60 = some true := by kernel_rfl
theorem sane_ev : Ev (fun k => diaphonelaw05_sane.f k) true := Ev.mono diaphonelaw05_sane.mono 60 sane_60
theorem sane_end : Ev (fun k => (diaphonelaw05_sane.f k).bind fun t => some t) true := Ev.bind sane_ev (Ev.pure _)
end Go.Proofs.Ytlbhedhbakhhlaa.Q

/- The errors of claimed delays and of CheckCliffs, by the code and by the document. -/
namespace Go.Proofs.Ytlbhedhbakhhlaa.Q
open Go.RowKit Go.Proofs.YtlbhedhbakhhlaaW.PrintWords Go.Proofs.YtlbhedhbakhhlaaW.PrintLast Go.Proofs.YtlbhedhbakhhlaaW.PrintMore

/-! ### slices.Index, slices.Contains -/
def fidx (v : Int) : List Int → Nat → Int
  | [], _ => -1
  | x :: t, n => if v = x then (n : Int) else fidx v t (n + 1)
theorem fidx_spec (v : Int) : ∀ (l : List Int) (n : Nat), (fidx v l n = -1 ∧ v ∉ l) ∨ ∃ j, j < l.length ∧ fidx v l n = ((n + j : Nat) : Int) ∧ v ∈ l ∧ l.eraseIdx j = l.erase v
  | [], n => .inl ⟨rfl, by simp⟩
  | x :: t, n => by
    unfold fidx
    by_cases h : v = x
    · subst h
      exact .inr ⟨0, by simp, by simp, by simp, by simp⟩
    · rw [if_neg h]
      rcases fidx_spec v t (n + 1) with ⟨h1, h2⟩ | ⟨j, h1, h2, h3, h4⟩
      · exact .inl ⟨h1, by simp [h, h2]⟩
      · refine .inr ⟨j + 1, by simp; omega, by rw [h2]; congr 1; omega, by simp [h3], ?_⟩
        rw [List.eraseIdx_cons_succ, h4, List.erase_cons_tail (by simpa using Ne.symm h)]
theorem index_l0 (l : List Int) (v : Int) (hl : l.length ≤ 1000000) : ∀ m i, l.length - i = m → i ≤ l.length → Ev (fun k => slices_Index_int_int.l0 k l v (l.length : Int) (i : Int)) (fidx v (l.drop i) i) := by
  intro m
  induction m with
  | zero =>
    intro i hm hi
    rw [List.drop_of_length_le (by omega)]
    refine Ev.step (Ev.pure _) fun k => ?_
    rw [slices_Index_int_int.l0, if_neg (by omega)]
    rfl
  | succ m ih =>
    intro i hm hi
    have hlt : i < l.length := by omega
    rw [List.drop_eq_getElem_cons hlt, fidx]
    by_cases h : v = l[i]
    · rw [if_pos h]
      refine Ev.step (Ev.pure _) fun k => ?_
      rw [slices_Index_int_int.l0, if_pos (by omega), if_pos (by omega), if_pos (by omega), rd_lt l i hlt, if_pos h]
    · rw [if_neg h]
      refine Ev.step (ih (i + 1) (by omega) (by omega)) fun k => ?_
      rw [slices_Index_int_int.l0, if_pos (by omega), if_pos (by omega), if_pos (by omega), rd_lt l i hlt, if_neg h, wrap_succ (by omega)]
theorem index_ev (l : List Int) (v : Int) (hl : l.length ≤ 1000000) : Ev (fun k => slices_Index_int_int.f k l v) (fidx v l 0) := by
  unfold slices_Index_int_int.f
  have := index_l0 l v hl l.length 0 (by omega) (by omega)
  simpa using this
theorem contains_ev (l : List Int) (v : Int) (hl : l.length ≤ 1000000) : Ev (fun k => slices_Contains_int_int.f k l v) (decide (v ∈ l)) := by
  unfold slices_Contains_int_int.f
  refine Ev.bind (index_ev l v hl) ?_
  have e : decide (fidx v l 0 ≥ 0) = decide (v ∈ l) := by
    rcases fidx_spec v l 0 with ⟨h1, h2⟩ | ⟨j, h1, h2, h3, h4⟩
    · rw [h1]; simp [h2]
    · rw [h2]; simp [h3]
  rw [e]
  exact Ev.pure _

/-! ### slices.IsSorted, slices.ContainsFunc -/
def Srt (l : List Int) : Prop := ∀ i, i < l.length → 0 < i → at_ l (i - 1) ≤ at_ l i
instance (l : List Int) : Decidable (Srt l) := inferInstanceAs (Decidable (∀ i, i < l.length → 0 < i → at_ l (i - 1) ≤ at_ l i))
theorem less_int (a b : Int) : cmp_Less_int.f a b = some (decide (a < b)) := by
  simp only [cmp_Less_int.f, cmp_isNaN_int.f, Option.bind_some, bne_self_eq_false, Bool.false_eq_true, if_false]
theorem isSorted_l0 (l : List Int) (hl : l.length ≤ 1000000) : ∀ n, n < l.length ∨ n = 0 → (∀ i, n < i → i < l.length → at_ l (i - 1) ≤ at_ l i) → Ev (fun k => slices_IsSorted_int_int.l0 k l (n : Int)) (decide (Srt l)) := by
  intro n
  induction n with
  | zero =>
    intro _ hs
    have e : decide (Srt l) = true := decide_eq_true (fun i h1 h2 => hs i h2 h1)
    rw [e]
    refine Ev.step (Ev.pure _) fun k => ?_
    rw [slices_IsSorted_int_int.l0, if_neg (by omega)]
  | succ n ih =>
    intro hn hs
    have hn' : n + 1 < l.length := by omega
    by_cases h : at_ l (n + 1) < at_ l n
    · have e : decide (Srt l) = false := decide_eq_false (fun hh => by
        have := hh (n + 1) hn' (by omega)
        rw [Nat.add_sub_cancel] at this
        omega)
      rw [e]
      refine Ev.step (Ev.pure _) fun k => ?_
      rw [slices_IsSorted_int_int.l0, if_pos (by omega), if_pos (by omega), if_pos (by omega), wrap_pred (by omega) (by omega), if_pos (by omega), if_pos (by omega), less_int, Option.bind_some, rd_at, rd_at, if_pos (by simpa using h)]
    · refine Ev.step (ih (by omega) (fun i h1 h2 => ?_)) fun k => ?_
      · by_cases e : i = n + 1
        · subst e; rw [Nat.add_sub_cancel]; omega
        · exact hs i (by omega) h2
      · rw [slices_IsSorted_int_int.l0, if_pos (by omega), if_pos (by omega), if_pos (by omega), wrap_pred (by omega) (by omega), if_pos (by omega), if_pos (by omega), less_int, Option.bind_some, rd_at, rd_at, if_neg (by simpa using h), Nat.add_sub_cancel]
theorem isSorted_ev (l : List Int) (hl : l.length ≤ 1000000) : Ev (fun k => slices_IsSorted_int_int.f k l) (decide (Srt l)) := by
  unfold slices_IsSorted_int_int.f
  by_cases h : l.length = 0
  · have e : decide (Srt l) = true := decide_eq_true (fun i h1 _ => by omega)
    rw [h, e]
    refine Ev.step (Ev.pure _) fun k => ?_
    rw [slices_IsSorted_int_int.l0, if_neg (by rw [wrap_of (by omega) (by omega)]; omega)]
  · rw [wrap_pred (by omega) (by omega)]
    exact isSorted_l0 l hl (l.length - 1) (by omega) (fun i h1 h2 => by omega)
def In60 (l : List Int) : Prop := ∀ i, i < l.length → 1 ≤ at_ l i ∧ at_ l i ≤ 60
instance (l : List Int) : Decidable (In60 l) := inferInstanceAs (Decidable (∀ i, i < l.length → 1 ≤ at_ l i ∧ at_ l i ≤ 60))
theorem claimed1 (x : Int) : echo_claimed_1.f x = some (!decide (1 ≤ x ∧ x ≤ 60)) := by
  unfold echo_claimed_1.f
  rw [within_echo]
  rfl
theorem indexFunc_l0 (l : List Int) (hl : l.length ≤ 1000000) : ∀ m i, l.length - i = m → i ≤ l.length → (∀ j, j < i → 1 ≤ at_ l j ∧ at_ l j ≤ 60) →
    ∃ r, Ev (fun k => slices_IndexFunc_int_int.l0 k l (l.length : Int) (i : Int)) r ∧ (0 ≤ r ↔ ¬ In60 l) := by
  intro m
  induction m with
  | zero =>
    intro i hm hi hj
    refine ⟨-1, Ev.step (Ev.pure _) fun k => ?_, by simp; exact fun j h => hj j (by omega)⟩
    rw [slices_IndexFunc_int_int.l0, if_neg (by omega)]
  | succ m ih =>
    intro i hm hi hj
    have hlt : i < l.length := by omega
    by_cases h : 1 ≤ at_ l i ∧ at_ l i ≤ 60
    · obtain ⟨r, h1, h2⟩ := ih (i + 1) (by omega) (by omega) (fun j h' => by
        by_cases e : j = i
        · subst e; exact h
        · exact hj j (by omega))
      refine ⟨r, Ev.step h1 fun k => ?_, h2⟩
      rw [slices_IndexFunc_int_int.l0, if_pos (by omega), if_pos (by omega), if_pos (by omega), claimed1, Option.bind_some, rd_at, if_neg (by simp; omega), wrap_succ (by omega)]
    · refine ⟨i, Ev.step (Ev.pure _) fun k => ?_, ?_⟩
      · rw [slices_IndexFunc_int_int.l0, if_pos (by omega), if_pos (by omega), if_pos (by omega), claimed1, Option.bind_some, rd_at, if_pos (by simp; omega)]
      · exact ⟨fun _ hh => h (hh i hlt), fun _ => by omega⟩
theorem containsFunc_ev (l : List Int) (hl : l.length ≤ 1000000) : Ev (fun k => slices_ContainsFunc_int_int.f k l 0) (decide (¬ In60 l)) := by
  unfold slices_ContainsFunc_int_int.f slices_IndexFunc_int_int.f
  obtain ⟨r, h1, h2⟩ := indexFunc_l0 l hl l.length 0 (by omega) (by omega) (fun j h => by omega)
  refine Ev.bind h1 ?_
  have e : decide (r ≥ 0) = decide (¬ In60 l) := by
    rw [decide_eq_decide]
    exact h2
  rw [e]
  exact Ev.pure _

/-! ### The errors of claimed delays -/
def pairsOk (n : Nat) : Prop := n = 0 ∨ n = 1 ∨ n = 3 ∨ n = 6 ∨ n = 10 ∨ n = 15
instance (n : Nat) : Decidable (pairsOk n) := inferInstanceAs (Decidable (_ ∨ _))
/-- Right claimed delays. -/
structure C (l : List Int) : Prop where
  n : pairsOk l.length
  srt : Srt l
  r : In60 l
instance (l : List Int) : Decidable (C l) := decidable_of_iff (pairsOk l.length ∧ Srt l ∧ In60 l) ⟨fun h => ⟨h.1, h.2.1, h.2.2⟩, fun h => ⟨h.n, h.srt, h.r⟩⟩
def cErr (l : List Int) : Int := if 15 < l.length then 3 else if C l then 0 else 1
theorem cErr_zero {l : List Int} (h : cErr l = 0) : C l := by
  unfold cErr at h
  split at h
  · cases h
  · split at h
    · assumption
    · cases h
theorem C.len {l : List Int} (h : C l) : l.length ≤ 15 := by
  have := h.n
  unfold pairsOk at this
  omega
theorem cErr_of {l : List Int} (h : C l) : cErr l = 0 := by
  unfold cErr
  rw [if_neg (by have := h.len; omega), if_pos h]
theorem claimed_ev (l : List Int) : Ev (fun k => echo_claimed.f k l) (cErr l) := by
  unfold echo_claimed.f
  by_cases h : 15 < l.length
  · have e : cErr l = 3 := by unfold cErr; rw [if_pos h]
    rw [e]
    simp only [if_pos (show (l.length : Int) > 15 by omega)]
    exact Ev.pure _
  · simp only [if_neg (show ¬ (l.length : Int) > 15 by omega)]
    refine Ev.bind (contains_ev _ _ (by simp)) ?_
    have e : decide ((l.length : Int) ∈ ([0, 1, 3, 6, 10, 15] : List Int)) = decide (pairsOk l.length) := by
      rw [decide_eq_decide]
      unfold pairsOk
      simp only [List.mem_cons, List.not_mem_nil, or_false]
      omega
    rw [e]
    by_cases h1 : pairsOk l.length
    · simp only [decide_eq_true h1, if_true]
      refine Ev.bind (isSorted_ev l (by omega)) ?_
      by_cases h2 : Srt l
      · simp only [decide_eq_true h2, if_true]
        refine Ev.bind (containsFunc_ev l (by omega)) ?_
        by_cases h3 : In60 l
        · rw [cErr_of ⟨h1, h2, h3⟩]
          simp only [decide_eq_false (show ¬ ¬ In60 l from fun hh => hh h3), Bool.false_eq_true, if_false]
          exact Ev.pure _
        · have e : cErr l = 1 := by unfold cErr; rw [if_neg h, if_neg (fun hc => h3 hc.r)]
          rw [e]
          simp only [decide_eq_true h3, if_true]
          exact Ev.pure _
      · have e : cErr l = 1 := by unfold cErr; rw [if_neg h, if_neg (fun hc => h2 hc.srt)]
        rw [e]
        simp only [decide_eq_false h2, Bool.false_eq_true, if_false]
        exact Ev.pure _
    · have e : cErr l = 1 := by unfold cErr; rw [if_neg h, if_neg (fun hc => h1 hc.n)]
      rw [e]
      simp only [decide_eq_false h1, Bool.false_eq_true, if_false]
      exact Ev.pure _

/-- How many cliffs have so many pairs; 0 for none. -/
def clf (p : Nat) : Int := if p = 0 then 1 else if p = 1 then 2 else if p = 3 then 3 else if p = 6 then 4 else if p = 10 then 5 else if p = 15 then 6 else 0
theorem cliffs_all : ∀ p : Fin 16, diaphoneref05_cliffs.f 10 (p.val : Int) = some (clf p.val) := by decide +kernel
theorem cliffs_ev (p : Nat) (h : p ≤ 15) : Ev (fun k => diaphoneref05_cliffs.f k (p : Int)) (clf p) :=
  Ev.mono (diaphoneref05_cliffs.mono (p : Int)) 10 (cliffs_all ⟨p, by omega⟩)
theorem clf_zero (p : Nat) : clf p = 0 ↔ ¬ pairsOk p := by
  unfold clf pairsOk
  split <;> (try split) <;> (try split) <;> (try split) <;> (try split) <;> (try split) <;> simp_all
theorem isDelays_l0 (l : List Int) (hl : l.length ≤ 15) : ∀ m i, l.length - i = m → i ≤ l.length → (∀ j, j < i → (1 ≤ at_ l j ∧ at_ l j ≤ 60) ∧ (0 < j → at_ l (j - 1) ≤ at_ l j)) → Ev (fun k => diaphoneref05_isDelays.l0 k l (i : Int)) (cErr l) := by
  intro m
  induction m with
  | zero =>
    intro i hm hi hj
    refine Ev.step (g := fun k => (diaphoneref05_cliffs.f k (l.length : Int)).bind fun t105 => (if t105 = 0 then (some 1) else (some 0))) ?_ fun k => ?_
    · refine Ev.bind (cliffs_ev l.length hl) ?_
      by_cases h : pairsOk l.length
      · rw [cErr_of ⟨h, fun i h1 h2 => (hj i (by omega)).2 h2, fun i h1 => (hj i (by omega)).1⟩]
        simp only [if_neg (show ¬ clf l.length = 0 from fun e => (clf_zero _).1 e h)]
        exact Ev.pure _
      · have e : cErr l = 1 := by unfold cErr; rw [if_neg (by omega), if_neg (fun hc => h hc.n)]
        rw [e]
        simp only [if_pos ((clf_zero _).2 h)]
        exact Ev.pure _
    · rw [diaphoneref05_isDelays.l0, if_neg (by omega)]
  | succ m ih =>
    intro i hm hi hj
    have hlt : i < l.length := by omega
    by_cases h : 1 ≤ at_ l i ∧ at_ l i ≤ 60
    · by_cases h2 : 0 < i ∧ at_ l i < at_ l (i - 1)
      · have e : cErr l = 1 := by unfold cErr; rw [if_neg (by omega), if_neg (fun hc => by have := hc.srt i hlt h2.1; omega)]
        rw [e]
        refine Ev.step (Ev.pure _) fun k => ?_
        rw [diaphoneref05_isDelays.l0, if_pos (by omega), if_pos (by omega), within_ref, Option.bind_some, rd_at, if_pos (by simpa using h), if_pos (by omega), wrap_pred (by omega) h2.1, if_pos (by omega), if_pos (by omega), rd_at, if_pos (by omega)]
      · refine Ev.step (ih (i + 1) (by omega) (by omega) (fun j h' => ?_)) fun k => ?_
        · by_cases e : j = i
          · subst e; exact ⟨h, fun h0 => by omega⟩
          · exact hj j (by omega)
        · rw [diaphoneref05_isDelays.l0, if_pos (by omega), if_pos (by omega), within_ref, Option.bind_some, rd_at, if_pos (by simpa using h), wrap_succ (by omega)]
          by_cases h0 : 0 < i
          · rw [if_pos (by omega), wrap_pred (by omega) h0, if_pos (by omega), if_pos (by omega), rd_at, if_neg (by omega)]
          · rw [if_neg (by omega)]
    · have e : cErr l = 1 := by unfold cErr; rw [if_neg (by omega), if_neg (fun hc => h (hc.r i hlt))]
      rw [e]
      refine Ev.step (Ev.pure _) fun k => ?_
      rw [diaphoneref05_isDelays.l0, if_pos (by omega), if_pos (by omega), within_ref, Option.bind_some, rd_at, if_neg (by simpa using h)]
theorem isDelays_ev (l : List Int) : Ev (fun k => diaphoneref05_isDelays.f k l) (cErr l) := by
  unfold diaphoneref05_isDelays.f
  by_cases h : 15 < l.length
  · have e : cErr l = 3 := by unfold cErr; rw [if_pos h]
    rw [e]
    simp only [if_pos (show (l.length : Int) > 15 by omega)]
    exact Ev.pure _
  · simp only [if_neg (show ¬ (l.length : Int) > 15 by omega)]
    exact isDelays_l0 l (by omega) l.length 0 (by omega) (by omega) (fun j h => by omega)

/-! ### CheckCliffs -/
def ccErr (l c : List Int) : Int := if cErr l = 0 then (if vErr c = 0 then (if dl c = l then 0 else 7) else vErr c) else cErr l
theorem CheckCliffs_ev (l c : List Int) : Ev (fun k => echo_CheckCliffs.f k l c) (ccErr l c) := by
  unfold echo_CheckCliffs.f ccErr
  refine Ev.bind (claimed_ev l) ?_
  by_cases h : cErr l = 0
  · simp only [if_pos h]
    refine Ev.bind (validate_ev c) ?_
    by_cases h2 : vErr c = 0
    · simp only [if_pos h2]
      have hs := (vErr_zero h2).small
      refine Ev.bind (delays_ev hs) ?_
      refine Ev.bind (Ev.of ((dl c).length + 1) (fun k hk => equal_ev (dl c) l (by have := dl_len hs; omega) k (by omega))) ?_
      by_cases h3 : dl c = l
      · simp only [decide_eq_true h3, if_true, if_pos h3]; exact Ev.pure _
      · simp only [decide_eq_false h3, Bool.false_eq_true, if_false, if_neg h3]; exact Ev.pure _
    · simp only [if_neg h2]; exact Ev.pure _
  · simp only [if_neg h]; exact Ev.pure _
theorem RCheckCliffs_ev (l c : List Int) : Ev (fun k => diaphoneref05_CheckCliffs.f k l c) (ccErr l c) := by
  unfold diaphoneref05_CheckCliffs.f ccErr
  refine Ev.bind (isDelays_ev l) ?_
  by_cases h : cErr l = 0
  · simp only [if_pos h]
    refine Ev.bind (rvalidate_ev c) ?_
    by_cases h2 : vErr c = 0
    · simp only [if_pos h2]
      have hs := (vErr_zero h2).small
      refine Ev.bind (rdelays_ev hs) ?_
      refine Ev.bind (same_ev (dl c) l (by have := dl_len hs; omega)) ?_
      by_cases h3 : dl c = l
      · simp only [decide_eq_true h3, if_true, if_pos h3]; exact Ev.pure _
      · simp only [decide_eq_false h3, Bool.false_eq_true, if_false, if_neg h3]; exact Ev.pure _
    · simp only [if_neg h2]; exact Ev.pure _
  · simp only [if_neg h]; exact Ev.pure _
end Go.Proofs.Ytlbhedhbakhhlaa.Q

/- The plain law of EchoChecks: which cliffs have claimed delays, by the code and by the document. -/
namespace Go.Proofs.Ytlbhedhbakhhlaa.Pure
open Go.RowKit Go.Proofs.Ytlbhedhbakhhlaa.Q

theorem EchoChecks : diaphonelaw05_EchoChecks.Pure := by
  intro l c _ _ _ _ _ _
  refine Ev.ex (r := true) ?_
  unfold diaphonelaw05_EchoChecks.f long2.f
  refine Ev.some_bind ?_
  by_cases hl : (decide (100 < l.length) || decide (100 < c.length)) = true
  · simp only [if_pos hl]
    exact sane_end
  · simp only [if_neg hl]
    refine Ev.bind (CheckCliffs_ev l c) ?_
    refine Ev.bind (RCheckCliffs_ev l c) ?_
    simp only [if_true]
    exact sane_end
end Go.Proofs.Ytlbhedhbakhhlaa.Pure

namespace Go.Proofs.Ytlbhedhbakhhlaa.echoChecks
open Go.ChangeShapes Go.WideShapes Go.ChangeAt Go.RowKit
open Go.ChangeMaps (open_string shut_string)
set_option linter.unusedVariables false
theorem own : ownKnob Try.prog.godebug = none := by kernel_rfl
theorem laidOut : laidOutB Try.prog = true := by kernel_rfl
def IsRow (k : IntKind) (w : World) (a : Option Addr) (len cap : Nat) (zs : List Int) : Prop :=
  (a = none ∧ len = 0 ∧ cap = 0 ∧ zs = []) ∨
  ∃ x, a = some x ∧ len ≤ cap ∧ cap ≤ maxLen ∧ zs.length = cap ∧ (∀ i, i < zs.length → w.cell? (x.add i) = some (.int k (zs.getD i 0))) ∧ ∀ n ∈ zs, (Lit.int k n).wf = true
set_option maxRecDepth 100000 in
theorem lifted (os : Os) (started : os.Started) (H : Type) (enc : TypeId × Value → H) :
    ReturnsInHanded {} Try.checked os 4 .any (Rows.echoChecksSpec.pre6 enc Try.prog Try.f4 Rows.echoChecksRow.domain false) (Rows.echoChecksSpec.post enc Try.prog Try.f4 false true false false) := by
  refine returnsInHanded_of_change_sized (C := Try.checked) own started (by kernel_rfl) Try.func4
    (ChangeSpec.witness6 (enc := enc) (C := Try.checked) false ⟨#[], #[.slice none 0 0, .slice none 0 0], []⟩ 8 (by kernel_rfl) (by kernel_rfl) (by kernel_rfl) (by kernel_rfl)) ?_
  intro W base args ds gs before hval0 hW hcnd hsz0 _
  have hsz : (DataW.weightsEach Try.prog (Try.f4.params.toList ++ Rows.echoChecksSpec.plain.varTypes Try.prog) (ds ++ gs)).all (· ≤ reachBytes) = true := hsz0
  have hval : ∀ (j : Nat) t v, Try.f4.params[j]? = some t → args[j]? = some v → Value.okWide Try.prog W .any base t v := hval0
  have hW' := hW
  obtain ⟨p, q, hA0, hV, rfl, hfz, hnd⟩ := hW
  have hA : DataW.TrodAll enc Try.prog W 0 (fun _ => true) true Try.f4.params.toList args.toList ds p := hA0
  rw [Try.params4] at hA hval hsz
  obtain ⟨v0, vs0, d0, ds0, p0, q0, hargs, rfl, rfl, h0, r0⟩ := trodAll_cons hA
  obtain ⟨v1, vs1, d1, ds1, p1, q1, rfl, rfl, rfl, h1, r1⟩ := trodAll_cons r0
  obtain ⟨rfl, rfl, rfl⟩ := trodAll_nil r1
  obtain rfl : args = #[v0, v1] := by cases args; simp_all
  obtain ⟨rfl, rfl⟩ := trodVars_none hV
  obtain ⟨a0, len0, cap0, rfl⟩ := okWide_slice Try.underlying22 (hval 0 22 v0 rfl rfl)
  have k0 := h0
  have lt0 : ∀ x ∈ p0, x.block < W.heap.size := by obtain ⟨m, hm⟩ := k0; exact DataW.trod_lt m _ _ _ hm
  obtain ⟨z0, w0⟩ : ∃ zs, IsRow .i64 W a0 len0 cap0 zs := by
    obtain ⟨fuel, hf⟩ := h0
    rcases open_ints Try.underlying22 Try.underlying3 (by kernel_rfl) hf with ⟨hcs, _⟩ | ⟨x, l, c, zs, hcs, _, hl, hm, hz, _, hcell, hwz⟩
    · simp [Value.cells] at hcs
      obtain ⟨rfl, rfl, rfl⟩ := hcs
      exact ⟨[], .inl ⟨rfl, rfl, rfl, rfl⟩⟩
    · simp [Value.cells] at hcs
      obtain ⟨rfl, rfl, rfl⟩ := hcs
      exact ⟨zs, .inr ⟨_, rfl, hl, hm, by simpa using hz, hcell, hwz⟩⟩
  have y0 : len0 * 8 ≤ 140737488351232 := Go.Proofs.YtlbhedhbakhhlaaW.PrintWords.sized_ints hsz (j := 0) (t := 22) rfl rfl Try.underlying22 Try.underlying3 (by kernel_rfl) (by kernel_rfl) h0
  obtain ⟨a1, len1, cap1, rfl⟩ := okWide_slice Try.underlying22 (hval 1 22 v1 rfl rfl)
  have k1 := h1
  have lt1 : ∀ x ∈ p1, x.block < W.heap.size := by obtain ⟨m, hm⟩ := k1; exact DataW.trod_lt m _ _ _ hm
  obtain ⟨z1, w1⟩ : ∃ zs, IsRow .i64 W a1 len1 cap1 zs := by
    obtain ⟨fuel, hf⟩ := h1
    rcases open_ints Try.underlying22 Try.underlying3 (by kernel_rfl) hf with ⟨hcs, _⟩ | ⟨x, l, c, zs, hcs, _, hl, hm, hz, _, hcell, hwz⟩
    · simp [Value.cells] at hcs
      obtain ⟨rfl, rfl, rfl⟩ := hcs
      exact ⟨[], .inl ⟨rfl, rfl, rfl, rfl⟩⟩
    · simp [Value.cells] at hcs
      obtain ⟨rfl, rfl, rfl⟩ := hcs
      exact ⟨zs, .inr ⟨_, rfl, hl, hm, by simpa using hz, hcell, hwz⟩⟩
  have y1 : len1 * 8 ≤ 140737488351232 := Go.Proofs.YtlbhedhbakhhlaaW.PrintWords.sized_ints hsz (j := 1) (t := 22) rfl rfl Try.underlying22 Try.underlying3 (by kernel_rfl) (by kernel_rfl) h1
  clear hA0 hval0 hsz0 hsz
  refine (Q.diaphonelaw05_EchoChecks.walk Pure.EchoChecks a0 len0 cap0 z0 a1 len1 cap1 z1 W w0 y0 w1 y1).mono fun e W' ⟨he, bel⟩ => ?_
  subst he
  exact ⟨_, rfl, _, _, _, [], _, [], hW', trodAll_mk1 (shut_bool Try.underlying4 _), (trodAll_cons_mk (Below.trod laidOut (by kernel_rfl) (of_decide_eq_true (by kernel_rfl)) k0 bel lt0) (trodAll_cons_mk (Below.trod laidOut (by kernel_rfl) (of_decide_eq_true (by kernel_rfl)) k1 bel lt1) trodAll_mk0)), rfl, bel.frame _, fun h => by cases h⟩
theorem over : Rows.echoChecksRow.holds Try.pinned (OpenSpec.ofChange Rows.echoChecksSpec) :=
  OpenClaim.holds_of_wide 4 Try.f4 rfl rfl rfl rfl rfl rfl rfl ⟨rfl, rfl, rfl, rfl, rfl⟩ rfl rfl rfl rfl rfl (by kernel_rfl) Try.func4 (by kernel_rfl)
    (of_decide_eq_true (by kernel_rfl)) (by unfold Func.isWrapper; first | (rw [if_pos (by decide +kernel)]; kernel_rfl) | (rw [if_neg (by decide +kernel)]; exact ⟨rfl, rfl⟩))
    (fun os started H enc _ => lifted os started H enc)
theorem proved : Rows.EchoChecksSaid := over
end Go.Proofs.Ytlbhedhbakhhlaa.echoChecks
namespace Go.Proofs.Ytlbhedhbakhhlaa
/-- The row, under a short name, for the claim. -/
theorem echoChecks_holds : Rows.EchoChecksSaid := echoChecks.proved
end Go.Proofs.Ytlbhedhbakhhlaa

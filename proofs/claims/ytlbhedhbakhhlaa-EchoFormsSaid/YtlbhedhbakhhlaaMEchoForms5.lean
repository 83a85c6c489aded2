/- EchoForms: joined texts (5 of 5) of the proof that the given statement of this claim holds, for every input, without any condition of its own. -/
import Derived.Test.YtlbhedhbakhhlaaMEchoForms2
import Derived.Test.YtlbhedhbakhhlaaMEchoForms4
import Derived.KernelRfl
import Derived.Test.YtlbhedhbakhhlaaMEchoForms3
import Derived.Test.YtlbhedhbakhhlaaRows
import Derived.WalkKit
import Derived.ProofKit
import Derived.OpenShut
import Derived.ShutString
import Derived.ChangeOld
import Derived.Below
import Derived.SizedLaws
import Derived.Test.YtlbhedhbakhhlaaMEchoForms1
set_option linter.unusedVariables false
set_option linter.unusedSimpArgs false

namespace Go.Proofs.Ytlbhedhbakhhlaa.Q
open Go.RowKit Go.Proofs.YtlbhedhbakhhlaaW.PrintWords Go.Proofs.YtlbhedhbakhhlaaW.PrintLast Go.Proofs.YtlbhedhbakhhlaaW.PrintMore
attribute [local go_sem] max2_int min2_int max_two min_two max_three min_three max_four min_four   -- for this text's walks alone
set_option linter.unusedVariables false
set_option linter.unusedSimpArgs false

/-! ### diaphoneref05_delays: function 53 -/
mutual
def diaphoneref05_delays.l0 : Nat → List Int → List Int → Int → Option (List Int)
  | 0, _, _, _ => none
  | k + 1, x0, x3, x4 => if x4 < (x0.length : Int) then (diaphoneref05_delays.l1 k x0 x3 x4 0) else ((diaphoneref05_sorted.f k x3).bind fun t101 => (some t101))
def diaphoneref05_delays.l1 : Nat → List Int → List Int → Int → Int → Option (List Int)
  | 0, _, _, _, _ => none
  | k + 1, x0, x3, x4, x5 => if x5 < x4 then (if 0 ≤ x4 then (if x4 < (x0.length : Int) then (if 0 ≤ x5 then (if x5 < (x0.length : Int) then (if x3.length < 17592186044416 then (diaphoneref05_delays.l1 k x0 (x3 ++ [wrap64 ((rd x0 x4) - (rd x0 x5))]) x4 (wrap64 (x5 + 1))) else (none)) else (none)) else (none)) else (none)) else (none)) else (diaphoneref05_delays.l0 k x0 x3 (wrap64 (x4 + 1)))
end
def diaphoneref05_delays.f (k : Nat) (l0 : List Int) : Option (List Int) := diaphoneref05_delays.l0 k l0 ([] : List Int) 0
theorem diaphoneref05_delays.mono_l : ∀ k, (∀ y0 y1 y2, LeO (diaphoneref05_delays.l0 k y0 y1 y2) (diaphoneref05_delays.l0 (k + 1) y0 y1 y2)) ∧ (∀ y0 y1 y2 y3, LeO (diaphoneref05_delays.l1 k y0 y1 y2 y3) (diaphoneref05_delays.l1 (k + 1) y0 y1 y2 y3))
  | 0 => ⟨fun _ _ _ r h => by simp [diaphoneref05_delays.l0] at h, fun _ _ _ _ r h => by simp [diaphoneref05_delays.l1] at h⟩
  | k + 1 => by
    obtain ⟨ih0, ih1⟩ := diaphoneref05_delays.mono_l k
    refine ⟨?_, ?_⟩
    · intro y0 y1 y2
      unfold diaphoneref05_delays.l0
      repeat' first
      | (with_reducible exact ih0 _ _ _)
      | (with_reducible exact ih1 _ _ _ _)
      | (with_reducible exact diaphoneref05_sorted.mono _ _)
      | (with_reducible exact LeO.refl _)
      | (with_reducible exact LeO.none _)
      | (with_reducible refine LeO.ite ?_ ?_)
      | (with_reducible refine LeO.bind ?_ (fun _ => ?_))
      | exact ih0 _ _ _
      | exact ih1 _ _ _ _
      | exact diaphoneref05_sorted.mono _ _
      | exact LeO.none _
      | refine LeO.ite ?_ ?_
      | refine LeO.bind ?_ (fun _ => ?_)
    · intro y0 y1 y2 y3
      unfold diaphoneref05_delays.l1
      repeat' first
      | (with_reducible exact ih0 _ _ _)
      | (with_reducible exact ih1 _ _ _ _)
      | (with_reducible exact diaphoneref05_sorted.mono _ _)
      | (with_reducible exact LeO.refl _)
      | (with_reducible exact LeO.none _)
      | (with_reducible refine LeO.ite ?_ ?_)
      | (with_reducible refine LeO.bind ?_ (fun _ => ?_))
      | exact ih0 _ _ _
      | exact ih1 _ _ _ _
      | exact diaphoneref05_sorted.mono _ _
      | exact LeO.none _
      | refine LeO.ite ?_ ?_
      | refine LeO.bind ?_ (fun _ => ?_)
theorem diaphoneref05_delays.mono : ∀ a0 k, LeO (diaphoneref05_delays.f k a0) (diaphoneref05_delays.f (k + 1) a0) := by
  intro a0 k
  obtain ⟨ih0, ih1⟩ := diaphoneref05_delays.mono_l k
  unfold diaphoneref05_delays.f
  repeat' first
      | (with_reducible exact ih0 _ _ _)
      | (with_reducible exact ih1 _ _ _ _)
      | (with_reducible exact diaphoneref05_sorted.mono _ _)
      | (with_reducible exact LeO.refl _)
      | (with_reducible exact LeO.none _)
      | (with_reducible refine LeO.ite ?_ ?_)
      | (with_reducible refine LeO.bind ?_ (fun _ => ?_))
      | exact ih0 _ _ _
      | exact ih1 _ _ _ _
      | exact diaphoneref05_sorted.mono _ _
      | exact LeO.none _
      | refine LeO.ite ?_ ?_
      | refine LeO.bind ?_ (fun _ => ?_)
def diaphoneref05_delays.T8 : Bool × List (List Nat × List Nat) := (true, [([], []), ([], []), ([], []), ([1, 2], [1, 2]), ([3], [3]), ([], []), ([], []), ([5, 6], [5, 6]), ([7], [7]), ([4, 8], [4, 8]), ([9], [9]), ([0, 10], [0, 10]), ([11, 11, 0, 1, 2, 3, 4, 5, 6, 7, 8, 9, 10, 11], [0, 11])])
def diaphoneref05_delays.B8 : List Nat := [0, 0, 0, 6, 14, 0, 0, 96, 224, 510, 1022, 2047, 4095]
theorem diaphoneref05_delays.tab8 : rtab .any (opsOf Try.f53 8) = diaphoneref05_delays.T8 := by kernel_rfl
theorem diaphoneref05_delays.bits8 : waitsOk diaphoneref05_delays.T8.2 diaphoneref05_delays.B8 = true := by kernel_rfl
set_option maxHeartbeats 8000000 in
set_option maxRecDepth 100000 in
theorem diaphoneref05_delays.calls (k : Nat) (A0 : Option Addr) (c0 : Nat) (l0 : List Int) (r : List Int) (w : World) (hr0 : Kd.C (Kd.int .i64) w A0 l0.length l0) (hc0 : l0.length ≤ c0) (h : diaphoneref05_delays.f k l0 = some r) :
    Calls Try.prog 53 #[.slice A0 l0.length c0] w fun e w' => ∃ v0_ : Value, e = .returned (v0_) ∧ Kd.R (Kd.int .i64) 3 w' w.heap.size (fun _ => True) v0_ r ∧ Below w.heap.size w w' := by
  have HR0 := Aside0.mk hr0
  have HC0 := Aside0.mk hc0
  clear hr0 hc0
  have HB := Aside0.mk (Below.refl w.heap.size w)
  have H : (diaphoneref05_delays.l0 k l0 ([] : List Int) 0) = some r := h
  clear h
  have H' := Aside0.mk H
  clear H
  go_enter Try.func53, Try.ntmps53
  go_wp2
  go_loopg [3, 4] k (fun kq v3 v4 w' => ∃ (x3_1 : List Int) (x4_1 : Int), v4 = .int .i64 x4_1 ∧ Aside0 (diaphoneref05_delays.l0 kq l0 x3_1 x4_1 = some r) ∧ Aside0 (kq ≤ k) ∧ Aside0 (Kd.R (Kd.int .i64) 3 w' w.heap.size (fun _ => True) v3 x3_1) ∧ Aside0 (Below w.heap.size w w'))
  case atStart => exact ⟨(([] : List Int)), (0), (by first | rfl | (simp; done) | (simp [*]; done)), H', ⟨Nat.le_refl _⟩, ⟨by first | exact Kd.R_nil _ _ _ _ _ | exact Kd.N_nil _ _ _ _ _ | exact Kd.V_nil _ _ _ _ _ | exact Kd.Q_nil _ _ _ _ _ | exact Kd.S_nil _ _ _ _ _⟩, ⟨by repeat (first | (with_reducible first | exact HB.out | apply below_alloc | apply pw_below_drewN | apply below_drew1) | exact HB.out)⟩⟩
  case round =>
    clear H'
    obtain ⟨x3_1, x4_1, rfl, HA, HK1, HO_3, HB⟩ := hrel
    cases gk with
    | zero => exact absurd HA.out (by simp [diaphoneref05_delays.l0])
    | succ k1 =>
      have H := HA.out
      clear HA
      simp only [diaphoneref05_delays.l0] at H
      by_cases c2 : x4_1 < (l0.length : Int)
      · rw [if_pos c2] at H
        have c2b0 : decide (x4_1 < (l0.length : Int)) = true := decide_eq_true c2
        clear c2
        have H' := Aside0.mk H
        clear H
        go_wp2
        go_loopg [3, 5] k1 (fun kq v3 v5 w' => ∃ (x3_2 : List Int) (x5_2 : Int), v5 = .int .i64 x5_2 ∧ Aside0 (diaphoneref05_delays.l1 kq l0 x3_2 x4_1 x5_2 = some r) ∧ Aside0 (kq ≤ k1) ∧ Aside0 (Kd.R (Kd.int .i64) 3 w' w.heap.size (fun _ => True) v3 x3_2) ∧ Aside0 (Below w.heap.size w w'))
        case atStart => exact ⟨(x3_1), (0), (by first | rfl | (simp; done) | (simp [*]; done)), H', ⟨Nat.le_refl _⟩, ⟨by (with_reducible repeat (first | apply Kd.R_alloc | apply Kd.R_drewN | apply Kd.R_drew)); exact HO_3.out⟩, ⟨by repeat (first | (with_reducible first | exact HB.out | apply below_alloc | apply pw_below_drewN | apply below_drew1) | exact HB.out)⟩⟩
        case round =>
          clear H'
          try clear c2
          try clear c2b0
          try clear p2
          obtain ⟨x3_2, x5_2, rfl, HA, HK2, HO_3, HB⟩ := hrel
          cases gk with
          | zero => exact absurd HA.out (by simp [diaphoneref05_delays.l1])
          | succ k2 =>
            have H := HA.out
            clear HA
            simp only [diaphoneref05_delays.l1] at H
            by_cases c3 : x5_2 < x4_1
            · rw [if_pos c3] at H
              have c3b0 : decide (x5_2 < x4_1) = true := decide_eq_true c3
              clear c3
              by_cases c4 : 0 ≤ x4_1
              · rw [if_pos c4] at H
                have c4b0 : decide (0 ≤ x4_1) = true := decide_eq_true c4
                clear c4
                by_cases c5 : x4_1 < (l0.length : Int)
                · rw [if_pos c5] at H
                  have c5b0 : decide (x4_1 < (l0.length : Int)) = true := decide_eq_true c5
                  clear c5
                  by_cases c6 : 0 ≤ x5_2
                  · rw [if_pos c6] at H
                    have c6b0 : decide (0 ≤ x5_2) = true := decide_eq_true c6
                    clear c6
                    by_cases c7 : x5_2 < (l0.length : Int)
                    · rw [if_pos c7] at H
                      have c7b0 : decide (x5_2 < (l0.length : Int)) = true := decide_eq_true c7
                      clear c7
                      by_cases c8 : x3_2.length < 17592186044416
                      · rw [if_pos c8] at H
                        have LMc8 := Aside0.mk c8
                        clear c8
                        obtain ⟨y106, hy106⟩ : ∃ y_ : List Int, y_ = (x3_2 ++ [wrap64 ((rd l0 x4_1) - (rd l0 x5_2))]) := ⟨_, rfl⟩
                        replace H : (diaphoneref05_delays.l1 k2 l0 y106 x4_1 (wrap64 (x5_2 + 1))) = some r := by first | (rw [hy106]; with_reducible exact H) | (have H2_ := (Option.bind_some _ _).symm.trans H; rw [hy106]; with_reducible exact H2_) | (have H2_ := (Option.bind_some _ _).symm.trans H; with_reducible exact H2_) | with_reducible exact H | (rw [hy106]; exact H) | exact H
                        have Ny106 := Aside0.mk hy106
                        clear hy106
                        have H' := Aside0.mk H
                        clear H
                        try go_wp2
                        have n0_ := Aside0.mk (Kd.R_drew HO_3.out)
                        have n1_ := Aside0.mk (below_drew1 HB.out)
                        clear HO_3
                        clear HB
                        have HO_3 := n0_
                        have HB := n1_
                        clear n0_ n1_
                        have p104 : 0 ≤ (x4_1 : Int) := of_decide_eq_true (by first | (with_reducible assumption) | assumption)
                        have q104 : x4_1 < (l0.length : Int) := of_decide_eq_true (by first | (with_reducible assumption) | assumption)
                        obtain ⟨ad104, e104, hx104_0⟩ := Kd.at_int HR0.out x4_1 p104 q104
                        have hw104_0 := hx104_0
                        cases e104
                        replace hx104_0 := (HB.out.cell (World.block_lt_of_cell? w _ hx104_0)).trans hx104_0
                        replace p104 := eq_true p104
                        replace q104 := eq_true q104
                        have p105 : 0 ≤ (x5_2 : Int) := of_decide_eq_true (by first | (with_reducible assumption) | assumption)
                        have q105 : x5_2 < (l0.length : Int) := of_decide_eq_true (by first | (with_reducible assumption) | assumption)
                        obtain ⟨ad105, e105, hx105_0⟩ := Kd.at_int HR0.out x5_2 p105 q105
                        have hw105_0 := hx105_0
                        obtain rfl : ad104 = ad105 := (by injection e105)
                        replace hx105_0 := (HB.out.cell (World.block_lt_of_cell? w _ hx105_0)).trans hx105_0
                        replace p105 := eq_true p105
                        replace q105 := eq_true q105
                        refine start_ (n := 13) (S := fun w' => w'.cell? (ad104.add (x4_1).toNat) = some (.int .i64 (rd l0 x4_1)) ∧ w'.cell? (ad104.add (x5_2).toNat) = some (.int .i64 (rd l0 x5_2))) (ds := []) #[false, false, false, false, false, false, false, false, false, false, false, false, false] (by kernel_rfl) rfl rfl ⟨((HB.out.cell (World.block_lt_of_cell? w _ hw104_0)).trans hw104_0), ((HB.out.cell (World.block_lt_of_cell? w _ hw105_0)).trans hw105_0)⟩ (fun hHeld => ?_); refine with_tabW diaphoneref05_delays.tab8 diaphoneref05_delays.bits8 (fun HT_ HW_ => ?_)
                        generalize wr.drew = w9 at HO_3 HB hx104_0 hx105_0 hHeld ⊢
                        refine pure_ (i := 0) (N := some 17) (v := ?_) (a' := ?_) #[true, false, false, false, false, false, false, false, false, false, false, false, false] rfl rfl (any_of HT_.out (by kernel_rfl)) (fun _ _ _ h => h) (Or.inl ⟨by rfl, ?_⟩) ?_ ?_
                        rotate_left
                        · intro w'
                          go_simp
                          with_reducible rfl
                        rotate_left
                        · simp only [Act.put, List.setIfInBounds_toArray, List.set_cons_zero, List.set_cons_succ, i64_w, i32_w]
                          rfl
                        refine pure_ (i := 1) (N := some 18) (v := ?_) (a' := ?_) #[true, true, false, false, false, false, false, false, false, false, false, false, false] rfl rfl (any_of HT_.out (by kernel_rfl)) (fun _ _ _ h => h) (Or.inl ⟨by rfl, ?_⟩) ?_ ?_
                        rotate_left
                        · intro w'
                          go_simp
                          with_reducible rfl
                        rotate_left
                        · simp only [Act.put, List.setIfInBounds_toArray, List.set_cons_zero, List.set_cons_succ, i64_w, i32_w]
                          rfl
                        refine pure_ (i := 2) (N := some 19) (v := ?_) (a' := ?_) #[true, true, true, false, false, false, false, false, false, false, false, false, false] rfl rfl (any_of HT_.out (by kernel_rfl)) (fun _ _ _ h => h) (Or.inl ⟨by rfl, ?_⟩) ?_ ?_
                        rotate_left
                        · intro w'
                          go_simp
                          with_reducible rfl
                        rotate_left
                        · simp only [Act.put, List.setIfInBounds_toArray, List.set_cons_zero, List.set_cons_succ, i64_w, i32_w]
                          rfl
                        refine pure_ (i := 3) (N := some 20) (v := ?_) (a' := ?_) #[true, true, true, true, false, false, false, false, false, false, false, false, false] rfl rfl (any_of HT_.out (by kernel_rfl)) (fun _ _ _ h => h) (Or.inl ⟨by rfl, ?_⟩) ?_ ?_
                        rotate_left
                        · intro w'
                          go_simp
                          with_reducible rfl
                        rotate_left
                        · simp only [Act.put, List.setIfInBounds_toArray, List.set_cons_zero, List.set_cons_succ, i64_w, i32_w]
                          rfl
                        refine pure_ (i := 5) (N := some 22) (v := ?_) (a' := ?_) #[true, true, true, true, false, true, false, false, false, false, false, false, false] rfl rfl (any_of HT_.out (by kernel_rfl)) (fun _ _ _ h => h) (Or.inl ⟨by rfl, ?_⟩) ?_ ?_
                        rotate_left
                        · intro w'
                          go_simp
                          with_reducible rfl
                        rotate_left
                        · simp only [Act.put, List.setIfInBounds_toArray, List.set_cons_zero, List.set_cons_succ, i64_w, i32_w]
                          rfl
                        refine pure_ (i := 6) (N := some 23) (v := ?_) (a' := ?_) #[true, true, true, true, false, true, true, false, false, false, false, false, false] rfl rfl (any_of HT_.out (by kernel_rfl)) (fun _ _ _ h => h) (Or.inl ⟨by rfl, ?_⟩) ?_ ?_
                        rotate_left
                        · intro w'
                          go_simp
                          with_reducible rfl
                        rotate_left
                        · simp only [Act.put, List.setIfInBounds_toArray, List.set_cons_zero, List.set_cons_succ, i64_w, i32_w]
                          rfl
                        refine pure_ (i := 7) (N := some 24) (v := ?_) (a' := ?_) #[true, true, true, true, false, true, true, true, false, false, false, false, false] rfl rfl (any_of HT_.out (by kernel_rfl)) (fun _ _ _ h => h) (Or.inl ⟨by rfl, ?_⟩) ?_ ?_
                        rotate_left
                        · intro w'
                          go_simp
                          with_reducible rfl
                        rotate_left
                        · simp only [Act.put, List.setIfInBounds_toArray, List.set_cons_zero, List.set_cons_succ, i64_w, i32_w]
                          rfl
                        refine take_ (i := 4) (N := some 21) (v := ?_) (a' := ?_) #[true, true, true, true, true, true, true, true, false, false, false, false, false] rfl rfl (take_ofW HT_.out HW_.out (by kernel_rfl)) (fun _ _ _ h => h) (Or.inl ⟨by rfl, ?_⟩) hHeld ?_ ?_
                        rotate_left
                        · rintro w' ⟨s0, s1⟩
                          go_simp
                          with_reducible rfl
                        rotate_left
                        · simp only [Act.put, List.setIfInBounds_toArray, List.set_cons_zero, List.set_cons_succ, i64_w, i32_w]
                          rfl
                        refine take_ (i := 8) (N := some 25) (v := ?_) (a' := ?_) #[true, true, true, true, true, true, true, true, true, false, false, false, false] rfl rfl (take_ofW HT_.out HW_.out (by kernel_rfl)) (fun _ _ _ h => h) (Or.inl ⟨by rfl, ?_⟩) hHeld ?_ ?_
                        rotate_left
                        · rintro w' ⟨s0, s1⟩
                          go_simp
                          with_reducible rfl
                        rotate_left
                        · simp only [Act.put, List.setIfInBounds_toArray, List.set_cons_zero, List.set_cons_succ, i64_w, i32_w]
                          rfl
                        refine pure_ (i := 9) (N := some 26) (v := ?_) (a' := ?_) #[true, true, true, true, true, true, true, true, true, true, false, false, false] rfl rfl (any_of HT_.out (by kernel_rfl)) (fun _ _ _ h => h) (Or.inl ⟨by rfl, ?_⟩) ?_ ?_
                        rotate_left
                        · intro w'
                          go_simp
                          with_reducible rfl
                        rotate_left
                        · simp only [Act.put, List.setIfInBounds_toArray, List.set_cons_zero, List.set_cons_succ, i64_w, i32_w]
                          rfl
                        refine one_ (i := 10) (N := some 27) #[true, true, true, true, true, true, true, true, true, true, true, false, false] rfl rfl (one_of HT_.out (by kernel_rfl)) (by decide) (fun K hK => ?_)
                        refine value_ (w1 := ?_) (v := ?_) (by rfl) rfl ?_ ?_
                        rotate_left 2
                        · go_simp
                          constructor
                          · rfl
                          · rfl
                        refine hK.out _ _ ⟨(World.cell?_alloc_lt _ _ _ (World.block_lt_of_cell? _ _ (((HB.out.cell (World.block_lt_of_cell? w _ hw104_0)).trans hw104_0)))).trans (((HB.out.cell (World.block_lt_of_cell? w _ hw104_0)).trans hw104_0)), (World.cell?_alloc_lt _ _ _ (World.block_lt_of_cell? _ _ (((HB.out.cell (World.block_lt_of_cell? w _ hw105_0)).trans hw105_0)))).trans (((HB.out.cell (World.block_lt_of_cell? w _ hw105_0)).trans hw105_0))⟩ (fun hHeld => ?_)
                        clear hK K
                        refine norm_ (a' := ?_) ?_ ?_
                        rotate_left
                        · show Act.put _ (some 27) _ = _
                          simp only [Act.put, List.setIfInBounds_toArray, List.set_cons_zero, List.set_cons_succ, i64_w, i32_w]
                          rfl
                        refine one_ (i := 11) (N := some 28) #[true, true, true, true, true, true, true, true, true, true, true, true, false] rfl rfl (one_of HT_.out (by kernel_rfl)) (by decide) (fun K hK => ?_)
                        refine Kd.R_append_step (Kd.int .i64) (w0 := w) w.heap.size (by rfl) (.tmp 17) (.tmp 27) 22 3 (.int .i64 0) 8 rfl Try.underlying22 info3 rfl (by decide) (by omega) u3 x3_2 (wrap64 ((rd l0 x4_1) - (rd l0 x5_2))) [.int .i64 (wrap64 ((rd l0 x4_1) - (rd l0 x5_2)))] (fun _ => True) (fun _ => False) rfl rfl ?aP (fun _ hk => hk.elim) ?aF ?aO ?aB ?aS ?aL ?_
                        (case aP => exact rfl)
                        (case aB => exact (by repeat (first | (with_reducible first | exact HB.out | apply below_alloc | apply pw_below_drewN | apply below_drew1) | exact HB.out)))
                        (case aF => exact (fun _ _ => trivial))
                        (case aO => exact (by (with_reducible repeat (first | apply Kd.R_alloc | apply Kd.R_drewN | apply Kd.R_drew)); exact HO_3.out))
                        (case aS => exact (below_size (by repeat (first | (with_reducible first | exact HB.out | apply below_alloc | apply pw_below_drewN | apply below_drew1) | exact HB.out))))
                        (case aL => have := LMc8.out; omega)
                        intro v107 w10 ho hb hg hat
                        rw [← Ny106.out] at ho
                        have n0_ := Aside0.mk (hb)
                        have n1_ := Aside0.mk (ho)
                        clear HB
                        clear HO_3
                        have HB := n0_
                        have HO108 := n1_
                        clear n0_ n1_
                        clear ho hb hg hat
                        refine hK.out _ _ ⟨((HB.out.cell (World.block_lt_of_cell? w _ hw104_0)).trans hw104_0), ((HB.out.cell (World.block_lt_of_cell? w _ hw105_0)).trans hw105_0)⟩ (fun hHeld => ?_)
                        clear hK K
                        refine norm_ (a' := ?_) ?_ ?_
                        rotate_left
                        · show Act.put _ (some 28) _ = _
                          simp only [Act.put, List.setIfInBounds_toArray, List.set_cons_zero, List.set_cons_succ, i64_w, i32_w]
                          rfl
                        refine pure_ (i := 12) (N := some 3) (v := ?_) (a' := ?_) #[true, true, true, true, true, true, true, true, true, true, true, true, true] rfl rfl (any_of HT_.out (by kernel_rfl)) (fun _ _ _ h => h) (Or.inl ⟨by rfl, ?_⟩) ?_ ?_
                        rotate_left
                        · intro w'
                          go_simp
                          with_reducible rfl
                        rotate_left
                        · simp only [Act.put, List.setIfInBounds_toArray, List.set_cons_zero, List.set_cons_succ, i64_w, i32_w]
                          rfl
                        refine done_ (done_of HT_.out (by kernel_rfl)) ?_
                        try go_wp2
                        go_roundg k2
                        case measure => have := HK1.out; have := HK2.out; omega
                        case rel => exact ⟨(y106), (wrap64 (x5_2 + 1)), (by first | rfl | (simp; done) | (simp [*]; done)), H', ⟨by have := HK1.out; have := HK2.out; omega⟩, ⟨by (with_reducible repeat (first | apply Kd.R_alloc | apply Kd.R_drewN | apply Kd.R_drew)); exact HO108.out⟩, ⟨by repeat (first | (with_reducible first | exact HB.out | apply below_alloc | apply pw_below_drewN | apply below_drew1) | exact HB.out)⟩⟩
                      · rw [if_neg c8] at H
                        exact absurd H (by simp)
                    · rw [if_neg c7] at H
                      exact absurd H (by simp)
                  · rw [if_neg c6] at H
                    exact absurd H (by simp)
                · rw [if_neg c5] at H
                  exact absurd H (by simp)
              · rw [if_neg c4] at H
                exact absurd H (by simp)
            · rw [if_neg c3] at H
              have c3b0 : decide (x5_2 < x4_1) = false := decide_eq_false c3
              clear c3
              have H' := Aside0.mk H
              clear H
              go_wp2
              go_roundg k2
              case measure => have := HK1.out; have := HK2.out; omega
              case rel => exact ⟨(x3_2), (wrap64 (x4_1 + 1)), (by first | rfl | (simp; done) | (simp [*]; done)), H', ⟨by have := HK1.out; have := HK2.out; omega⟩, ⟨by (with_reducible repeat (first | apply Kd.R_alloc | apply Kd.R_drewN | apply Kd.R_drew)); exact HO_3.out⟩, ⟨by repeat (first | (with_reducible first | exact HB.out | apply below_alloc | apply pw_below_drewN | apply below_drew1) | exact HB.out)⟩⟩
      · rw [if_neg c2] at H
        have c2b0 : decide (x4_1 < (l0.length : Int)) = false := decide_eq_false c2
        clear c2
        replace H := Option.bind_eq_some_iff.mp H
        obtain ⟨t101, A110, H⟩ := H
        replace H : (some t101) = some r := H
        have A11 := Aside0.mk A110
        clear A110
        obtain rfl := Option.some.inj H
        obtain ⟨Ao12, co12, eo12⟩ := Kd.R_slice HO_3.out
        subst eo12
        go_wp2_with (first | ((with_reducible refine gate_callee (f := 72) rfl ?_); refine goesL_ (some 30) rfl rfl Try.func72 (by kernel_rfl) rfl #[.slice Ao12 x3_1.length co12] rfl (by (try simp only [List.map_toArray, List.map_cons, List.map_nil]); first | done | rfl | (simp only [List.length_drop, List.length_take]; rfl)) ?_; (with_reducible refine (diaphoneref05_sorted.calls k1 _ _ x3_1 t101 _ ?side1 ?side2 A11.out).mono ?_); (case side1 => repeat (first | exact (Kd.R_reads' HO_3.out).2.2 | (with_reducible refine Kd.C_alloc ?_ _) | (with_reducible refine Kd.C_drewN ?_ _) | (with_reducible refine Kd.C_drew ?_))); (case side2 => exact (Kd.R_reads' HO_3.out).2.1); rintro e w13 ⟨v102, rfl, ho0, hb⟩; refine ⟨_, rfl, ?_⟩; have n0_ := Aside0.mk (Kd.R_elder' (by (with_reducible repeat (first | apply Kd.R_alloc | apply Kd.R_drewN | apply Kd.R_drew)); exact HO_3.out) (Kd.R_base ho0) hb); have n1_ := Aside0.mk (Kd.R_lower (Kd.R_new' ho0 (Kd.R_lt (by (with_reducible repeat (first | apply Kd.R_alloc | apply Kd.R_drewN | apply Kd.R_drew)); exact HO_3.out))) (below_size (by repeat (first | (with_reducible first | exact HB.out | apply below_alloc | apply pw_below_drewN | apply below_drew1) | exact HB.out)))); have n2_ := Aside0.mk (below_step (by repeat (first | (with_reducible first | exact HB.out | apply below_alloc | apply pw_below_drewN | apply below_drew1) | exact HB.out)) hb); clear HO_3; clear HB; have HO_3 := n0_; have HO103 := n1_; have HB := n2_; clear n0_ n1_ n2_; (try clear hb); (try clear hb2); (try clear hk); (try clear hi); (try clear ho0)))
        go_ret
        exact ⟨_, by first | rfl | (simp [errW_none, errW_some] <;> rfl) | (simp [*, errW_none, errW_some] <;> rfl), by (with_reducible repeat (first | apply Kd.R_alloc | apply Kd.R_drewN | apply Kd.R_drew)); exact Kd.R_mono HO103.out (fun _ hk => trivial), by repeat (first | (with_reducible first | exact HB.out | apply below_alloc | apply pw_below_drewN | apply below_drew1) | exact HB.out)⟩

end Go.Proofs.Ytlbhedhbakhhlaa.Q

namespace Go.Proofs.Ytlbhedhbakhhlaa.Q
open Go.RowKit Go.Proofs.YtlbhedhbakhhlaaW.PrintWords Go.Proofs.YtlbhedhbakhhlaaW.PrintLast Go.Proofs.YtlbhedhbakhhlaaW.PrintMore
attribute [local go_sem] max2_int min2_int max_two min_two max_three min_three max_four min_four   -- for this text's walks alone
set_option linter.unusedVariables false
set_option linter.unusedSimpArgs false

/-! ### diaphoneref05_two: function 66 -/
def diaphoneref05_two.f (k : Nat) (l0 : List Int) (l1 : List Int) : Option (Int) := (diaphoneref05_Validate.f k l0).bind fun t101 => (if t101 = 0 then ((diaphoneref05_Validate.f k l1).bind fun t102 => (some t102)) else (some t101))
theorem diaphoneref05_two.mono : ∀ a0 a1 k, LeO (diaphoneref05_two.f k a0 a1) (diaphoneref05_two.f (k + 1) a0 a1) := by
  intro a0 a1 k
  unfold diaphoneref05_two.f
  repeat' first
      | (with_reducible exact diaphoneref05_Validate.mono _ _)
      | (with_reducible exact LeO.refl _)
      | (with_reducible exact LeO.none _)
      | (with_reducible refine LeO.ite ?_ ?_)
      | (with_reducible refine LeO.bind ?_ (fun _ => ?_))
      | exact diaphoneref05_Validate.mono _ _
      | exact LeO.none _
      | refine LeO.ite ?_ ?_
      | refine LeO.bind ?_ (fun _ => ?_)
set_option maxHeartbeats 8000000 in
set_option maxRecDepth 100000 in
theorem diaphoneref05_two.calls (k : Nat) (A0 : Option Addr) (c0 : Nat) (l0 : List Int) (A1 : Option Addr) (c1 : Nat) (l1 : List Int) (r : Int) (w : World) (hr0 : Kd.C (Kd.int .i64) w A0 l0.length l0) (hc0 : l0.length ≤ c0) (hr1 : Kd.C (Kd.int .i64) w A1 l1.length l1) (hc1 : l1.length ≤ c1) (h : diaphoneref05_two.f k l0 l1 = some r) :
    Calls Try.prog 66 #[.slice A0 l0.length c0, .slice A1 l1.length c1] w fun e w' => e = .returned (.int .i64 r) ∧ Drawn0 w w' := by
  have HR0 := Aside0.mk hr0
  have HC0 := Aside0.mk hc0
  clear hr0 hc0
  have HR1 := Aside0.mk hr1
  have HC1 := Aside0.mk hc1
  clear hr1 hc1
  have H : ((diaphoneref05_Validate.f k l0).bind fun t101 => (if t101 = 0 then ((diaphoneref05_Validate.f k l1).bind fun t102 => (some t102)) else (some t101))) = some r := h
  clear h
  replace H := Option.bind_eq_some_iff.mp H
  obtain ⟨t101, A30, H⟩ := H
  replace H : (if t101 = 0 then ((diaphoneref05_Validate.f k l1).bind fun t102 => (some t102)) else (some t101)) = some r := H
  have A3 := Aside0.mk A30
  clear A30
  by_cases c4 : t101 = 0
  · rw [if_pos c4] at H
    have c4b0 : (t101 == 0) = true := beq_iff_eq.mpr c4
    have c4b1 : (t101 != 0) = false := bne_eq_false_iff_eq.mpr c4
    clear c4
    replace H := Option.bind_eq_some_iff.mp H
    obtain ⟨t102, A50, H⟩ := H
    replace H : (some t102) = some r := H
    have A5 := Aside0.mk A50
    clear A50
    obtain rfl := Option.some.inj H
    go_enter Try.func66, Try.ntmps66
    go_wp2_with (first | ((with_reducible refine gate_callee (f := 22) rfl ?_); refine goesL_ (some 7) rfl rfl Try.func22 (by kernel_rfl) rfl #[.slice A0 l0.length c0] rfl (by (try simp only [List.map_toArray, List.map_cons, List.map_nil]); first | done | rfl | (simp only [List.length_drop, List.length_take]; rfl)) ?_; (with_reducible refine (diaphoneref05_Validate.calls k _ _ l0 t101 _ ?side1 ?side2 A3.out).mono ?_); (case side1 => repeat (first | exact HR0.out | (with_reducible refine Kd.C_alloc ?_ _) | (with_reducible refine Kd.C_drewN ?_ _) | (with_reducible refine Kd.C_drew ?_))); (case side2 => exact HC0.out); rintro e w' ⟨rfl, ⟨nd, rfl⟩⟩; refine ⟨_, rfl, ?_⟩) | ((with_reducible refine gate_callee (f := 22) rfl ?_); refine goesL_ (some 12) rfl rfl Try.func22 (by kernel_rfl) rfl #[.slice A1 l1.length c1] rfl (by (try simp only [List.map_toArray, List.map_cons, List.map_nil]); first | done | rfl | (simp only [List.length_drop, List.length_take]; rfl)) ?_; (with_reducible refine (diaphoneref05_Validate.calls k _ _ l1 t102 _ ?side1 ?side2 A5.out).mono ?_); (case side1 => repeat (first | exact HR1.out | (with_reducible refine Kd.C_alloc ?_ _) | (with_reducible refine Kd.C_drewN ?_ _) | (with_reducible refine Kd.C_drew ?_))); (case side2 => exact HC1.out); rintro e w' ⟨rfl, ⟨nd, rfl⟩⟩; refine ⟨_, rfl, ?_⟩))
    go_ret
    exact ⟨by first | rfl | (simp; done) | (simp [*]; done), by repeat (first | exact Drawn0.refl _ | apply Drawn0.step)⟩
  · rw [if_neg c4] at H
    have c4b0 : (t101 == 0) = false := beq_eq_false_iff_ne.mpr c4
    have c4b1 : (t101 != 0) = true := bne_iff_ne.mpr c4
    obtain rfl := Option.some.inj H
    go_enter Try.func66, Try.ntmps66
    go_wp2_with (first | ((with_reducible refine gate_callee (f := 22) rfl ?_); refine goesL_ (some 7) rfl rfl Try.func22 (by kernel_rfl) rfl #[.slice A0 l0.length c0] rfl (by (try simp only [List.map_toArray, List.map_cons, List.map_nil]); first | done | rfl | (simp only [List.length_drop, List.length_take]; rfl)) ?_; (with_reducible refine (diaphoneref05_Validate.calls k _ _ l0 t101 _ ?side1 ?side2 A3.out).mono ?_); (case side1 => repeat (first | exact HR0.out | (with_reducible refine Kd.C_alloc ?_ _) | (with_reducible refine Kd.C_drewN ?_ _) | (with_reducible refine Kd.C_drew ?_))); (case side2 => exact HC0.out); rintro e w' ⟨rfl, ⟨nd, rfl⟩⟩; refine ⟨_, rfl, ?_⟩))
    go_ret
    exact ⟨by first | rfl | (simp; done) | (simp [*]; done), by repeat (first | exact Drawn0.refl _ | apply Drawn0.step)⟩

end Go.Proofs.Ytlbhedhbakhhlaa.Q

namespace Go.Proofs.Ytlbhedhbakhhlaa.Q
open Go.RowKit Go.Proofs.YtlbhedhbakhhlaaW.PrintWords Go.Proofs.YtlbhedhbakhhlaaW.PrintLast Go.Proofs.YtlbhedhbakhhlaaW.PrintMore
attribute [local go_sem] max2_int min2_int max_two min_two max_three min_three max_four min_four   -- for this text's walks alone
set_option linter.unusedVariables false
set_option linter.unusedSimpArgs false

/-! ### diaphoneref05_Same: function 33 -/
def diaphoneref05_Same.f (k : Nat) (l0 : List Int) (l1 : List Int) : Option (Bool × Int) := (diaphoneref05_two.f k l0 l1).bind fun t101 => (if t101 = 0 then ((diaphoneref05_delays.f k l0).bind fun t102 => ((diaphoneref05_delays.f k l1).bind fun t105 => ((diaphoneref05_SameInts.f k t102 t105).bind fun t108 => (some (t108, 0))))) else (some (false, t101)))
theorem diaphoneref05_Same.mono : ∀ a0 a1 k, LeO (diaphoneref05_Same.f k a0 a1) (diaphoneref05_Same.f (k + 1) a0 a1) := by
  intro a0 a1 k
  unfold diaphoneref05_Same.f
  repeat' first
      | (with_reducible exact diaphoneref05_SameInts.mono _ _ _)
      | (with_reducible exact diaphoneref05_delays.mono _ _)
      | (with_reducible exact diaphoneref05_two.mono _ _ _)
      | (with_reducible exact LeO.refl _)
      | (with_reducible exact LeO.none _)
      | (with_reducible refine LeO.ite ?_ ?_)
      | (with_reducible refine LeO.bind ?_ (fun _ => ?_))
      | exact diaphoneref05_SameInts.mono _ _ _
      | exact diaphoneref05_delays.mono _ _
      | exact diaphoneref05_two.mono _ _ _
      | exact LeO.none _
      | refine LeO.ite ?_ ?_
      | refine LeO.bind ?_ (fun _ => ?_)
set_option maxHeartbeats 8000000 in
set_option maxRecDepth 100000 in
theorem diaphoneref05_Same.calls (k : Nat) (A0 : Option Addr) (c0 : Nat) (l0 : List Int) (A1 : Option Addr) (c1 : Nat) (l1 : List Int) (r1 : Bool) (r2 : Int) (w : World) (hr0 : Kd.C (Kd.int .i64) w A0 l0.length l0) (hc0 : l0.length ≤ c0) (hr1 : Kd.C (Kd.int .i64) w A1 l1.length l1) (hc1 : l1.length ≤ c1) (h : diaphoneref05_Same.f k l0 l1 = some (r1, r2)) :
    Calls Try.prog 33 #[.slice A0 l0.length c0, .slice A1 l1.length c1] w fun e w' => e = .returned (.tuple #[.bool r1, .int .i64 r2]) ∧ Below w.heap.size w w' := by
  have HR0 := Aside0.mk hr0
  have HC0 := Aside0.mk hc0
  clear hr0 hc0
  have HR1 := Aside0.mk hr1
  have HC1 := Aside0.mk hc1
  clear hr1 hc1
  have HB := Aside0.mk (Below.refl w.heap.size w)
  have H : ((diaphoneref05_two.f k l0 l1).bind fun t101 => (if t101 = 0 then ((diaphoneref05_delays.f k l0).bind fun t102 => ((diaphoneref05_delays.f k l1).bind fun t105 => ((diaphoneref05_SameInts.f k t102 t105).bind fun t108 => (some (t108, 0))))) else (some (false, t101)))) = some (r1, r2) := h
  clear h
  replace H := Option.bind_eq_some_iff.mp H
  obtain ⟨t101, A30, H⟩ := H
  replace H : (if t101 = 0 then ((diaphoneref05_delays.f k l0).bind fun t102 => ((diaphoneref05_delays.f k l1).bind fun t105 => ((diaphoneref05_SameInts.f k t102 t105).bind fun t108 => (some (t108, 0))))) else (some (false, t101))) = some (r1, r2) := H
  have A3 := Aside0.mk A30
  clear A30
  by_cases c4 : t101 = 0
  · rw [if_pos c4] at H
    have c4b0 : (t101 == 0) = true := beq_iff_eq.mpr c4
    have c4b1 : (t101 != 0) = false := bne_eq_false_iff_eq.mpr c4
    clear c4
    replace H := Option.bind_eq_some_iff.mp H
    obtain ⟨t102, A50, H⟩ := H
    replace H : ((diaphoneref05_delays.f k l1).bind fun t105 => ((diaphoneref05_SameInts.f k t102 t105).bind fun t108 => (some (t108, 0)))) = some (r1, r2) := H
    have A5 := Aside0.mk A50
    clear A50
    replace H := Option.bind_eq_some_iff.mp H
    obtain ⟨t105, A60, H⟩ := H
    replace H : ((diaphoneref05_SameInts.f k t102 t105).bind fun t108 => (some (t108, 0))) = some (r1, r2) := H
    have A6 := Aside0.mk A60
    clear A60
    replace H := Option.bind_eq_some_iff.mp H
    obtain ⟨t108, A70, H⟩ := H
    replace H : (some (t108, 0)) = some (r1, r2) := H
    have A7 := Aside0.mk A70
    clear A70
    simp only [Option.some.injEq, Prod.mk.injEq] at H
    obtain ⟨rfl, rfl⟩ := H
    go_enter Try.func33, Try.ntmps33
    go_wp2_with (first | ((with_reducible refine gate_callee (f := 66) rfl ?_); refine goesL_ (some 9) rfl rfl Try.func66 (by kernel_rfl) rfl #[.slice A0 l0.length c0, .slice A1 l1.length c1] rfl (by (try simp only [List.map_toArray, List.map_cons, List.map_nil]); first | done | rfl | (simp only [List.length_drop, List.length_take]; rfl)) ?_; (with_reducible refine (diaphoneref05_two.calls k _ _ l0 _ _ l1 t101 _ ?side1 ?side2 ?side3 ?side4 A3.out).mono ?_); (case side1 => repeat (first | exact HR0.out | (with_reducible refine Kd.C_alloc ?_ _) | (with_reducible refine Kd.C_drewN ?_ _) | (with_reducible refine Kd.C_drew ?_))); (case side2 => exact HC0.out); (case side3 => repeat (first | exact HR1.out | (with_reducible refine Kd.C_alloc ?_ _) | (with_reducible refine Kd.C_drewN ?_ _) | (with_reducible refine Kd.C_drew ?_))); (case side4 => exact HC1.out); rintro e w' ⟨rfl, ⟨nd, rfl⟩⟩; refine ⟨_, rfl, ?_⟩) | ((with_reducible refine gate_callee (f := 53) rfl ?_); refine goesL_ (some 14) rfl rfl Try.func53 (by kernel_rfl) rfl #[.slice A0 l0.length c0] rfl (by (try simp only [List.map_toArray, List.map_cons, List.map_nil]); first | done | rfl | (simp only [List.length_drop, List.length_take]; rfl)) ?_; (with_reducible refine (diaphoneref05_delays.calls k _ _ l0 t102 _ ?side1 ?side2 A5.out).mono ?_); (case side1 => repeat (first | exact HR0.out | (with_reducible refine Kd.C_alloc ?_ _) | (with_reducible refine Kd.C_drewN ?_ _) | (with_reducible refine Kd.C_drew ?_))); (case side2 => exact HC0.out); rintro e w8 ⟨v103, rfl, ho0, hb⟩; refine ⟨_, rfl, ?_⟩; have n0_ := Aside0.mk (Kd.R_lower ho0 (below_size (by repeat (first | (with_reducible first | exact HB.out | apply below_alloc | apply pw_below_drewN | apply below_drew1) | exact HB.out)))); have n1_ := Aside0.mk (below_step (by repeat (first | (with_reducible first | exact HB.out | apply below_alloc | apply pw_below_drewN | apply below_drew1) | exact HB.out)) hb); clear HB; have HO104 := n0_; have HB := n1_; clear n0_ n1_; (try clear hb); (try clear hb2); (try clear hk); (try clear hi); (try clear ho0)) | ((with_reducible refine gate_callee (f := 53) rfl ?_); refine goesL_ (some 16) rfl rfl Try.func53 (by kernel_rfl) rfl #[.slice A1 l1.length c1] rfl (by (try simp only [List.map_toArray, List.map_cons, List.map_nil]); first | done | rfl | (simp only [List.length_drop, List.length_take]; rfl)) ?_; (with_reducible refine (diaphoneref05_delays.calls k _ _ l1 t105 _ ?side1 ?side2 A6.out).mono ?_); (case side1 => repeat (first | exact (Kd.C_below HR1.out HB.out) | (with_reducible refine Kd.C_alloc ?_ _) | (with_reducible refine Kd.C_drewN ?_ _) | (with_reducible refine Kd.C_drew ?_))); (case side2 => exact HC1.out); rintro e w9 ⟨v106, rfl, ho0, hb⟩; refine ⟨_, rfl, ?_⟩; have n0_ := Aside0.mk (Kd.R_elder' (by (with_reducible repeat (first | apply Kd.R_alloc | apply Kd.R_drewN | apply Kd.R_drew)); exact HO104.out) (Kd.R_base ho0) hb); have n1_ := Aside0.mk (Kd.R_lower (Kd.R_new' ho0 (Kd.R_lt (by (with_reducible repeat (first | apply Kd.R_alloc | apply Kd.R_drewN | apply Kd.R_drew)); exact HO104.out))) (below_size (by repeat (first | (with_reducible first | exact HB.out | apply below_alloc | apply pw_below_drewN | apply below_drew1) | exact HB.out)))); have n2_ := Aside0.mk (below_step (by repeat (first | (with_reducible first | exact HB.out | apply below_alloc | apply pw_below_drewN | apply below_drew1) | exact HB.out)) hb); clear HO104; clear HB; have HO104 := n0_; have HO107 := n1_; have HB := n2_; clear n0_ n1_ n2_; (try clear hb); (try clear hb2); (try clear hk); (try clear hi); (try clear ho0); obtain ⟨Ao10, co10, eo10⟩ := Kd.R_slice HO104.out; subst eo10; obtain ⟨Ao11, co11, eo11⟩ := Kd.R_slice HO107.out; subst eo11) | ((with_reducible refine gate_callee (f := 23) rfl ?_); refine goesL_ (some 17) rfl rfl Try.func23 (by kernel_rfl) rfl #[.slice Ao10 t102.length co10, .slice Ao11 t105.length co11] rfl (by (try simp only [List.map_toArray, List.map_cons, List.map_nil]); first | done | rfl | (simp only [List.length_drop, List.length_take]; rfl)) ?_; (with_reducible refine (diaphoneref05_SameInts.calls k _ _ t102 _ _ t105 t108 _ ?side1 ?side2 ?side3 ?side4 A7.out).mono ?_); (case side1 => repeat (first | exact (Kd.R_reads' HO104.out).2.2 | (with_reducible refine Kd.C_alloc ?_ _) | (with_reducible refine Kd.C_drewN ?_ _) | (with_reducible refine Kd.C_drew ?_))); (case side2 => exact (Kd.R_reads' HO104.out).2.1); (case side3 => repeat (first | exact (Kd.R_reads' HO107.out).2.2 | (with_reducible refine Kd.C_alloc ?_ _) | (with_reducible refine Kd.C_drewN ?_ _) | (with_reducible refine Kd.C_drew ?_))); (case side4 => exact (Kd.R_reads' HO107.out).2.1); rintro e w' ⟨rfl, ⟨nd, rfl⟩⟩; refine ⟨_, rfl, ?_⟩))
    go_ret2
    exact ⟨by first | rfl | (simp [errW_none, errW_some] <;> rfl) | (simp [*, errW_none, errW_some] <;> rfl), by repeat (first | (with_reducible first | exact HB.out | apply below_alloc | apply pw_below_drewN | apply below_drew1) | exact HB.out)⟩
  · rw [if_neg c4] at H
    have c4b0 : (t101 == 0) = false := beq_eq_false_iff_ne.mpr c4
    have c4b1 : (t101 != 0) = true := bne_iff_ne.mpr c4
    simp only [Option.some.injEq, Prod.mk.injEq] at H
    obtain ⟨rfl, rfl⟩ := H
    go_enter Try.func33, Try.ntmps33
    go_wp2_with (first | ((with_reducible refine gate_callee (f := 66) rfl ?_); refine goesL_ (some 9) rfl rfl Try.func66 (by kernel_rfl) rfl #[.slice A0 l0.length c0, .slice A1 l1.length c1] rfl (by (try simp only [List.map_toArray, List.map_cons, List.map_nil]); first | done | rfl | (simp only [List.length_drop, List.length_take]; rfl)) ?_; (with_reducible refine (diaphoneref05_two.calls k _ _ l0 _ _ l1 t101 _ ?side1 ?side2 ?side3 ?side4 A3.out).mono ?_); (case side1 => repeat (first | exact HR0.out | (with_reducible refine Kd.C_alloc ?_ _) | (with_reducible refine Kd.C_drewN ?_ _) | (with_reducible refine Kd.C_drew ?_))); (case side2 => exact HC0.out); (case side3 => repeat (first | exact HR1.out | (with_reducible refine Kd.C_alloc ?_ _) | (with_reducible refine Kd.C_drewN ?_ _) | (with_reducible refine Kd.C_drew ?_))); (case side4 => exact HC1.out); rintro e w' ⟨rfl, ⟨nd, rfl⟩⟩; refine ⟨_, rfl, ?_⟩))
    go_ret2
    exact ⟨by first | rfl | (simp [errW_none, errW_some] <;> rfl) | (simp [*, errW_none, errW_some] <;> rfl), by repeat (first | (with_reducible first | exact HB.out | apply below_alloc | apply pw_below_drewN | apply below_drew1) | exact HB.out)⟩

end Go.Proofs.Ytlbhedhbakhhlaa.Q

namespace Go.Proofs.Ytlbhedhbakhhlaa.Q
open Go.RowKit Go.Proofs.YtlbhedhbakhhlaaW.PrintWords Go.Proofs.YtlbhedhbakhhlaaW.PrintLast Go.Proofs.YtlbhedhbakhhlaaW.PrintMore
attribute [local go_sem] max2_int min2_int max_two min_two max_three min_three max_four min_four   -- for this text's walks alone
set_option linter.unusedVariables false
set_option linter.unusedSimpArgs false

/-! ### diaphoneref05_Alike: function 34 -/
def diaphoneref05_Alike.f (k : Nat) (l0 : List Int) (l1 : List Int) : Option (Bool × Int) := (diaphoneref05_two.f k l0 l1).bind fun t101 => (if t101 = 0 then ((diaphoneref05_normal.f k l0).bind fun t102 => ((diaphoneref05_normal.f k l1).bind fun t105 => ((diaphoneref05_SameInts.f k t102 t105).bind fun t108 => (some (t108, 0))))) else (some (false, t101)))
theorem diaphoneref05_Alike.mono : ∀ a0 a1 k, LeO (diaphoneref05_Alike.f k a0 a1) (diaphoneref05_Alike.f (k + 1) a0 a1) := by
  intro a0 a1 k
  unfold diaphoneref05_Alike.f
  repeat' first
      | (with_reducible exact diaphoneref05_SameInts.mono _ _ _)
      | (with_reducible exact diaphoneref05_normal.mono _ _)
      | (with_reducible exact diaphoneref05_two.mono _ _ _)
      | (with_reducible exact LeO.refl _)
      | (with_reducible exact LeO.none _)
      | (with_reducible refine LeO.ite ?_ ?_)
      | (with_reducible refine LeO.bind ?_ (fun _ => ?_))
      | exact diaphoneref05_SameInts.mono _ _ _
      | exact diaphoneref05_normal.mono _ _
      | exact diaphoneref05_two.mono _ _ _
      | exact LeO.none _
      | refine LeO.ite ?_ ?_
      | refine LeO.bind ?_ (fun _ => ?_)
set_option maxHeartbeats 8000000 in
set_option maxRecDepth 100000 in
theorem diaphoneref05_Alike.calls (k : Nat) (A0 : Option Addr) (c0 : Nat) (l0 : List Int) (A1 : Option Addr) (c1 : Nat) (l1 : List Int) (r1 : Bool) (r2 : Int) (w : World) (hr0 : Kd.C (Kd.int .i64) w A0 l0.length l0) (hc0 : l0.length ≤ c0) (hr1 : Kd.C (Kd.int .i64) w A1 l1.length l1) (hc1 : l1.length ≤ c1) (h : diaphoneref05_Alike.f k l0 l1 = some (r1, r2)) :
    Calls Try.prog 34 #[.slice A0 l0.length c0, .slice A1 l1.length c1] w fun e w' => e = .returned (.tuple #[.bool r1, .int .i64 r2]) ∧ Below w.heap.size w w' := by
  have HR0 := Aside0.mk hr0
  have HC0 := Aside0.mk hc0
  clear hr0 hc0
  have HR1 := Aside0.mk hr1
  have HC1 := Aside0.mk hc1
  clear hr1 hc1
  have HB := Aside0.mk (Below.refl w.heap.size w)
  have H : ((diaphoneref05_two.f k l0 l1).bind fun t101 => (if t101 = 0 then ((diaphoneref05_normal.f k l0).bind fun t102 => ((diaphoneref05_normal.f k l1).bind fun t105 => ((diaphoneref05_SameInts.f k t102 t105).bind fun t108 => (some (t108, 0))))) else (some (false, t101)))) = some (r1, r2) := h
  clear h
  replace H := Option.bind_eq_some_iff.mp H
  obtain ⟨t101, A30, H⟩ := H
  replace H : (if t101 = 0 then ((diaphoneref05_normal.f k l0).bind fun t102 => ((diaphoneref05_normal.f k l1).bind fun t105 => ((diaphoneref05_SameInts.f k t102 t105).bind fun t108 => (some (t108, 0))))) else (some (false, t101))) = some (r1, r2) := H
  have A3 := Aside0.mk A30
  clear A30
  by_cases c4 : t101 = 0
  · rw [if_pos c4] at H
    have c4b0 : (t101 == 0) = true := beq_iff_eq.mpr c4
    have c4b1 : (t101 != 0) = false := bne_eq_false_iff_eq.mpr c4
    clear c4
    replace H := Option.bind_eq_some_iff.mp H
    obtain ⟨t102, A50, H⟩ := H
    replace H : ((diaphoneref05_normal.f k l1).bind fun t105 => ((diaphoneref05_SameInts.f k t102 t105).bind fun t108 => (some (t108, 0)))) = some (r1, r2) := H
    have A5 := Aside0.mk A50
    clear A50
    replace H := Option.bind_eq_some_iff.mp H
    obtain ⟨t105, A60, H⟩ := H
    replace H : ((diaphoneref05_SameInts.f k t102 t105).bind fun t108 => (some (t108, 0))) = some (r1, r2) := H
    have A6 := Aside0.mk A60
    clear A60
    replace H := Option.bind_eq_some_iff.mp H
    obtain ⟨t108, A70, H⟩ := H
    replace H : (some (t108, 0)) = some (r1, r2) := H
    have A7 := Aside0.mk A70
    clear A70
    simp only [Option.some.injEq, Prod.mk.injEq] at H
    obtain ⟨rfl, rfl⟩ := H
    go_enter Try.func34, Try.ntmps34
    go_wp2_with (first | ((with_reducible refine gate_callee (f := 66) rfl ?_); refine goesL_ (some 9) rfl rfl Try.func66 (by kernel_rfl) rfl #[.slice A0 l0.length c0, .slice A1 l1.length c1] rfl (by (try simp only [List.map_toArray, List.map_cons, List.map_nil]); first | done | rfl | (simp only [List.length_drop, List.length_take]; rfl)) ?_; (with_reducible refine (diaphoneref05_two.calls k _ _ l0 _ _ l1 t101 _ ?side1 ?side2 ?side3 ?side4 A3.out).mono ?_); (case side1 => repeat (first | exact HR0.out | (with_reducible refine Kd.C_alloc ?_ _) | (with_reducible refine Kd.C_drewN ?_ _) | (with_reducible refine Kd.C_drew ?_))); (case side2 => exact HC0.out); (case side3 => repeat (first | exact HR1.out | (with_reducible refine Kd.C_alloc ?_ _) | (with_reducible refine Kd.C_drewN ?_ _) | (with_reducible refine Kd.C_drew ?_))); (case side4 => exact HC1.out); rintro e w' ⟨rfl, ⟨nd, rfl⟩⟩; refine ⟨_, rfl, ?_⟩) | ((with_reducible refine gate_callee (f := 65) rfl ?_); refine goesL_ (some 14) rfl rfl Try.func65 (by kernel_rfl) rfl #[.slice A0 l0.length c0] rfl (by (try simp only [List.map_toArray, List.map_cons, List.map_nil]); first | done | rfl | (simp only [List.length_drop, List.length_take]; rfl)) ?_; (with_reducible refine (diaphoneref05_normal.calls k _ _ l0 t102 _ ?side1 ?side2 A5.out).mono ?_); (case side1 => repeat (first | exact HR0.out | (with_reducible refine Kd.C_alloc ?_ _) | (with_reducible refine Kd.C_drewN ?_ _) | (with_reducible refine Kd.C_drew ?_))); (case side2 => exact HC0.out); rintro e w8 ⟨v103, rfl, ho0, hb⟩; refine ⟨_, rfl, ?_⟩; have n0_ := Aside0.mk (Kd.R_lower ho0 (below_size (by repeat (first | (with_reducible first | exact HB.out | apply below_alloc | apply pw_below_drewN | apply below_drew1) | exact HB.out)))); have n1_ := Aside0.mk (below_step (by repeat (first | (with_reducible first | exact HB.out | apply below_alloc | apply pw_below_drewN | apply below_drew1) | exact HB.out)) hb); clear HB; have HO104 := n0_; have HB := n1_; clear n0_ n1_; (try clear hb); (try clear hb2); (try clear hk); (try clear hi); (try clear ho0)) | ((with_reducible refine gate_callee (f := 65) rfl ?_); refine goesL_ (some 16) rfl rfl Try.func65 (by kernel_rfl) rfl #[.slice A1 l1.length c1] rfl (by (try simp only [List.map_toArray, List.map_cons, List.map_nil]); first | done | rfl | (simp only [List.length_drop, List.length_take]; rfl)) ?_; (with_reducible refine (diaphoneref05_normal.calls k _ _ l1 t105 _ ?side1 ?side2 A6.out).mono ?_); (case side1 => repeat (first | exact (Kd.C_below HR1.out HB.out) | (with_reducible refine Kd.C_alloc ?_ _) | (with_reducible refine Kd.C_drewN ?_ _) | (with_reducible refine Kd.C_drew ?_))); (case side2 => exact HC1.out); rintro e w9 ⟨v106, rfl, ho0, hb⟩; refine ⟨_, rfl, ?_⟩; have n0_ := Aside0.mk (Kd.R_elder' (by (with_reducible repeat (first | apply Kd.R_alloc | apply Kd.R_drewN | apply Kd.R_drew)); exact HO104.out) (Kd.R_base ho0) hb); have n1_ := Aside0.mk (Kd.R_lower (Kd.R_new' ho0 (Kd.R_lt (by (with_reducible repeat (first | apply Kd.R_alloc | apply Kd.R_drewN | apply Kd.R_drew)); exact HO104.out))) (below_size (by repeat (first | (with_reducible first | exact HB.out | apply below_alloc | apply pw_below_drewN | apply below_drew1) | exact HB.out)))); have n2_ := Aside0.mk (below_step (by repeat (first | (with_reducible first | exact HB.out | apply below_alloc | apply pw_below_drewN | apply below_drew1) | exact HB.out)) hb); clear HO104; clear HB; have HO104 := n0_; have HO107 := n1_; have HB := n2_; clear n0_ n1_ n2_; (try clear hb); (try clear hb2); (try clear hk); (try clear hi); (try clear ho0); obtain ⟨Ao10, co10, eo10⟩ := Kd.R_slice HO104.out; subst eo10; obtain ⟨Ao11, co11, eo11⟩ := Kd.R_slice HO107.out; subst eo11) | ((with_reducible refine gate_callee (f := 23) rfl ?_); refine goesL_ (some 17) rfl rfl Try.func23 (by kernel_rfl) rfl #[.slice Ao10 t102.length co10, .slice Ao11 t105.length co11] rfl (by (try simp only [List.map_toArray, List.map_cons, List.map_nil]); first | done | rfl | (simp only [List.length_drop, List.length_take]; rfl)) ?_; (with_reducible refine (diaphoneref05_SameInts.calls k _ _ t102 _ _ t105 t108 _ ?side1 ?side2 ?side3 ?side4 A7.out).mono ?_); (case side1 => repeat (first | exact (Kd.R_reads' HO104.out).2.2 | (with_reducible refine Kd.C_alloc ?_ _) | (with_reducible refine Kd.C_drewN ?_ _) | (with_reducible refine Kd.C_drew ?_))); (case side2 => exact (Kd.R_reads' HO104.out).2.1); (case side3 => repeat (first | exact (Kd.R_reads' HO107.out).2.2 | (with_reducible refine Kd.C_alloc ?_ _) | (with_reducible refine Kd.C_drewN ?_ _) | (with_reducible refine Kd.C_drew ?_))); (case side4 => exact (Kd.R_reads' HO107.out).2.1); rintro e w' ⟨rfl, ⟨nd, rfl⟩⟩; refine ⟨_, rfl, ?_⟩))
    go_ret2
    exact ⟨by first | rfl | (simp [errW_none, errW_some] <;> rfl) | (simp [*, errW_none, errW_some] <;> rfl), by repeat (first | (with_reducible first | exact HB.out | apply below_alloc | apply pw_below_drewN | apply below_drew1) | exact HB.out)⟩
  · rw [if_neg c4] at H
    have c4b0 : (t101 == 0) = false := beq_eq_false_iff_ne.mpr c4
    have c4b1 : (t101 != 0) = true := bne_iff_ne.mpr c4
    simp only [Option.some.injEq, Prod.mk.injEq] at H
    obtain ⟨rfl, rfl⟩ := H
    go_enter Try.func34, Try.ntmps34
    go_wp2_with (first | ((with_reducible refine gate_callee (f := 66) rfl ?_); refine goesL_ (some 9) rfl rfl Try.func66 (by kernel_rfl) rfl #[.slice A0 l0.length c0, .slice A1 l1.length c1] rfl (by (try simp only [List.map_toArray, List.map_cons, List.map_nil]); first | done | rfl | (simp only [List.length_drop, List.length_take]; rfl)) ?_; (with_reducible refine (diaphoneref05_two.calls k _ _ l0 _ _ l1 t101 _ ?side1 ?side2 ?side3 ?side4 A3.out).mono ?_); (case side1 => repeat (first | exact HR0.out | (with_reducible refine Kd.C_alloc ?_ _) | (with_reducible refine Kd.C_drewN ?_ _) | (with_reducible refine Kd.C_drew ?_))); (case side2 => exact HC0.out); (case side3 => repeat (first | exact HR1.out | (with_reducible refine Kd.C_alloc ?_ _) | (with_reducible refine Kd.C_drewN ?_ _) | (with_reducible refine Kd.C_drew ?_))); (case side4 => exact HC1.out); rintro e w' ⟨rfl, ⟨nd, rfl⟩⟩; refine ⟨_, rfl, ?_⟩))
    go_ret2
    exact ⟨by first | rfl | (simp [errW_none, errW_some] <;> rfl) | (simp [*, errW_none, errW_some] <;> rfl), by repeat (first | (with_reducible first | exact HB.out | apply below_alloc | apply pw_below_drewN | apply below_drew1) | exact HB.out)⟩

end Go.Proofs.Ytlbhedhbakhhlaa.Q

namespace Go.Proofs.Ytlbhedhbakhhlaa.Q
open Go.RowKit Go.Proofs.YtlbhedhbakhhlaaW.PrintWords Go.Proofs.YtlbhedhbakhhlaaW.PrintLast Go.Proofs.YtlbhedhbakhhlaaW.PrintMore
attribute [local go_sem] max2_int min2_int max_two min_two max_three min_three max_four min_four   -- for this text's walks alone
set_option linter.unusedVariables false
set_option linter.unusedSimpArgs false

/-! ### diaphonelaw05_Long: function 15 -/
def diaphonelaw05_Long.l0 : Nat → List (List Int) → Int → Option (Bool)
  | 0, _, _ => none
  | k + 1, x0, x3 => if x3 < (x0.length : Int) then (if 0 ≤ x3 then (if ((rd_L1 x0 x3).length : Int) > 100 then (some true) else (diaphonelaw05_Long.l0 k x0 (wrap64 (x3 + 1)))) else (none)) else (some false)
def diaphonelaw05_Long.f (k : Nat) (l0 : List (List Int)) : Option (Bool) := diaphonelaw05_Long.l0 k l0 0
theorem diaphonelaw05_Long.mono_l : ∀ k, (∀ y0 y1, LeO (diaphonelaw05_Long.l0 k y0 y1) (diaphonelaw05_Long.l0 (k + 1) y0 y1))
  | 0 => fun _ _ r h => by simp [diaphonelaw05_Long.l0] at h
  | k + 1 => by
    have ih0 := diaphonelaw05_Long.mono_l k
    · intro y0 y1
      unfold diaphonelaw05_Long.l0
      repeat' first
      | (with_reducible exact ih0 _ _)
      | (with_reducible exact LeO.refl _)
      | (with_reducible exact LeO.none _)
      | (with_reducible refine LeO.ite ?_ ?_)
      | (with_reducible refine LeO.bind ?_ (fun _ => ?_))
      | exact ih0 _ _
      | exact LeO.none _
      | refine LeO.ite ?_ ?_
      | refine LeO.bind ?_ (fun _ => ?_)
theorem diaphonelaw05_Long.mono : ∀ a0 k, LeO (diaphonelaw05_Long.f k a0) (diaphonelaw05_Long.f (k + 1) a0) := by
  intro a0 k
  have ih0 := diaphonelaw05_Long.mono_l k
  unfold diaphonelaw05_Long.f
  repeat' first
      | (with_reducible exact ih0 _ _)
      | (with_reducible exact LeO.refl _)
      | (with_reducible exact LeO.none _)
      | (with_reducible refine LeO.ite ?_ ?_)
      | (with_reducible refine LeO.bind ?_ (fun _ => ?_))
      | exact ih0 _ _
      | exact LeO.none _
      | refine LeO.ite ?_ ?_
      | refine LeO.bind ?_ (fun _ => ?_)
set_option maxHeartbeats 8000000 in
set_option maxRecDepth 100000 in
theorem diaphonelaw05_Long.calls (k : Nat) (A0 : Option Addr) (c0 : Nat) (l0 : List (List Int)) (r : Bool) (w : World) (hr0 : Kd.C (Kd.slice 3 (Kd.int .i64)) w A0 l0.length l0) (hc0 : l0.length ≤ c0) (h : diaphonelaw05_Long.f k l0 = some r) :
    Calls Try.prog 15 #[.slice A0 l0.length c0] w fun e w' => e = .returned (.bool r) ∧ Drawn0 w w' := by
  have HR0 := Aside0.mk hr0
  have HC0 := Aside0.mk hc0
  clear hr0 hc0
  have H : (diaphonelaw05_Long.l0 k l0 0) = some r := h
  clear h
  have H' := Aside0.mk H
  clear H
  go_enter Try.func15, Try.ntmps15
  go_wp2
  go_loopg [3] k (fun kq v3 w' => ∃ (x3_1 : Int), v3 = .int .i64 x3_1 ∧ Aside0 (diaphonelaw05_Long.l0 kq l0 x3_1 = some r) ∧ Aside0 (kq ≤ k) ∧ Drawn0 w w')
  case atStart => exact ⟨(0), (by first | rfl | (simp; done) | (simp [*]; done)), H', ⟨Nat.le_refl _⟩, by repeat (first | exact Drawn0.refl _ | apply Drawn0.step)⟩
  case round =>
    clear H'
    try clear c1
    obtain ⟨x3_1, rfl, HA, HK1, ⟨m1, rfl⟩⟩ := hrel
    cases gk with
    | zero => exact absurd HA.out (by simp [diaphonelaw05_Long.l0])
    | succ k1 =>
      have H := HA.out
      clear HA
      simp only [diaphonelaw05_Long.l0] at H
      by_cases c2 : x3_1 < (l0.length : Int)
      · rw [if_pos c2] at H
        have c2b0 : decide (x3_1 < (l0.length : Int)) = true := decide_eq_true c2
        clear c2
        by_cases c3 : 0 ≤ x3_1
        · rw [if_pos c3] at H
          have c3b0 : decide (0 ≤ x3_1) = true := decide_eq_true c3
          clear c3
          by_cases c4 : ((rd_L1 l0 x3_1).length : Int) > 100
          · rw [if_pos c4] at H
            have c4b0 : decide (100 < ((rd_L1 l0 x3_1).length : Int)) = true := decide_eq_true c4
            have c4b1 : decide (100 < (rd_L1 l0 x3_1).length) = true := decide_eq_true (by omega)
            clear c4
            obtain rfl := Option.some.inj H
            have p101 : 0 ≤ (x3_1 : Int) := of_decide_eq_true (by first | (with_reducible assumption) | assumption)
            have q101 : x3_1 < (l0.length : Int) := of_decide_eq_true (by first | (with_reducible assumption) | assumption)
            obtain ⟨ad101, A101_0, c101_0, e101, hx101_0, hl101_0, hi101_0⟩ := at_L1 HR0.out x3_1 p101 q101
            cases e101
            have HR101_0 := Aside0.mk hi101_0
            have HC101_0 := Aside0.mk hl101_0
            clear hi101_0 hl101_0
            replace p101 := eq_true p101
            replace q101 := eq_true q101
            go_wp2
            go_ret
            exact ⟨by first | rfl | (simp; done) | (simp [*]; done), by repeat (first | exact Drawn0.refl _ | apply Drawn0.step)⟩
          · rw [if_neg c4] at H
            have c4b0 : decide (100 < ((rd_L1 l0 x3_1).length : Int)) = false := decide_eq_false c4
            have c4b1 : decide (100 < (rd_L1 l0 x3_1).length) = false := decide_eq_false (by omega)
            clear c4
            have H' := Aside0.mk H
            clear H
            have p101 : 0 ≤ (x3_1 : Int) := of_decide_eq_true (by first | (with_reducible assumption) | assumption)
            have q101 : x3_1 < (l0.length : Int) := of_decide_eq_true (by first | (with_reducible assumption) | assumption)
            obtain ⟨ad101, A101_0, c101_0, e101, hx101_0, hl101_0, hi101_0⟩ := at_L1 HR0.out x3_1 p101 q101
            cases e101
            have HR101_0 := Aside0.mk hi101_0
            have HC101_0 := Aside0.mk hl101_0
            clear hi101_0 hl101_0
            replace p101 := eq_true p101
            replace q101 := eq_true q101
            go_wp2
            go_roundg k1
            case measure => have := HK1.out; omega
            case rel => exact ⟨(wrap64 (x3_1 + 1)), (by first | rfl | (simp; done) | (simp [*]; done)), H', ⟨by have := HK1.out; omega⟩, by repeat (first | exact Drawn0.refl _ | apply Drawn0.step)⟩
        · rw [if_neg c3] at H
          exact absurd H (by simp)
      · rw [if_neg c2] at H
        have c2b0 : decide (x3_1 < (l0.length : Int)) = false := decide_eq_false c2
        clear c2
        obtain rfl := Option.some.inj H
        go_wp2
        go_ret
        exact ⟨by first | rfl | (simp; done) | (simp [*]; done), by repeat (first | exact Drawn0.refl _ | apply Drawn0.step)⟩

end Go.Proofs.Ytlbhedhbakhhlaa.Q

/- Long of one row and of two: whether a row has more than 100 numbers. -/
namespace Go.Proofs.Ytlbhedhbakhhlaa.Q
open Go.RowKit Go.Proofs.YtlbhedhbakhhlaaW.PrintWords Go.Proofs.YtlbhedhbakhhlaaW.PrintLast Go.Proofs.YtlbhedhbakhhlaaW.PrintMore

def long1.f (l0 : List Int) : Option Bool := some (decide (100 < l0.length))
def long2.f (l0 l1 : List Int) : Option Bool := some (decide (100 < l0.length) || decide (100 < l1.length))

theorem long_reads1 {w : World} {A0 : Option Addr} {c0 : Nat} {l0 : List Int} (hr0 : Kd.C (Kd.int .i64) w A0 l0.length l0) (hc0 : l0.length ≤ c0) :
    Kd.C (Kd.slice 3 (Kd.int .i64)) (w.alloc (.cells #[.slice A0 l0.length c0] 22 (0, 0))) (some ⟨w.heap.size, 0, none⟩) 1 [l0] := by
  refine ⟨rfl, by omega, fun _ => ⟨_, rfl, fun j p hj => ?_⟩⟩
  match j, hj with
  | 0, hj =>
    obtain rfl : l0 = p := by simpa using hj
    refine ⟨[.slice A0 l0.length c0], rfl, ⟨A0, c0, rfl, hc0, Kd.C_alloc hr0 _⟩, fun i u hu => ?_⟩
    match i, hu with
    | 0, hu =>
      obtain rfl : Value.slice A0 l0.length c0 = u := by simpa using hu
      have hh := (show ∀ o : Obj, (w.alloc o).heap[w.heap.size]? = some o from fun o => by rw [World.alloc]; exact Array.getElem?_push_size)
      simp [World.cell?, Addr.add, Kd.slice, hh, -Array.getElem?_eq_getElem, -getElem?_pos]; rfl

theorem long_reads2 {w : World} {A0 A1 : Option Addr} {c0 c1 : Nat} {l0 l1 : List Int} (hr0 : Kd.C (Kd.int .i64) w A0 l0.length l0) (hc0 : l0.length ≤ c0)
    (hr1 : Kd.C (Kd.int .i64) w A1 l1.length l1) (hc1 : l1.length ≤ c1) :
    Kd.C (Kd.slice 3 (Kd.int .i64)) (w.alloc (.cells #[.slice A0 l0.length c0, .slice A1 l1.length c1] 22 (0, 0))) (some ⟨w.heap.size, 0, none⟩) 2 [l0, l1] := by
  refine ⟨rfl, by omega, fun _ => ⟨_, rfl, fun j p hj => ?_⟩⟩
  match j, hj with
  | 0, hj =>
    obtain rfl : l0 = p := by simpa using hj
    refine ⟨[.slice A0 l0.length c0], rfl, ⟨A0, c0, rfl, hc0, Kd.C_alloc hr0 _⟩, fun i u hu => ?_⟩
    match i, hu with
    | 0, hu =>
      obtain rfl : Value.slice A0 l0.length c0 = u := by simpa using hu
      have hh := (show ∀ o : Obj, (w.alloc o).heap[w.heap.size]? = some o from fun o => by rw [World.alloc]; exact Array.getElem?_push_size)
      simp [World.cell?, Addr.add, Kd.slice, hh, -Array.getElem?_eq_getElem, -getElem?_pos]; rfl
  | 1, hj =>
    obtain rfl : l1 = p := by simpa using hj
    refine ⟨[.slice A1 l1.length c1], rfl, ⟨A1, c1, rfl, hc1, Kd.C_alloc hr1 _⟩, fun i u hu => ?_⟩
    match i, hu with
    | 0, hu =>
      obtain rfl : Value.slice A1 l1.length c1 = u := by simpa using hu
      have hh := (show ∀ o : Obj, (w.alloc o).heap[w.heap.size]? = some o from fun o => by rw [World.alloc]; exact Array.getElem?_push_size)
      simp [World.cell?, Addr.add, Kd.slice, hh, -Array.getElem?_eq_getElem, -getElem?_pos]; rfl

theorem long1.calls (A0 : Option Addr) (c0 : Nat) (l0 : List Int) (r : Bool) (w : World) (hr0 : Kd.C (Kd.int .i64) w A0 l0.length l0) (hc0 : l0.length ≤ c0) (h : long1.f l0 = some r) :
    Calls Try.prog 15 #[.slice (some ⟨w.heap.size, 0, none⟩) 1 1] (w.alloc (.cells #[.slice A0 l0.length c0] 22 (0, 0))) fun e w' => e = .returned (.bool r) ∧ Below w.heap.size w w' := by
  refine (diaphonelaw05_Long.calls 3 (some ⟨w.heap.size, 0, none⟩) 1 [l0] r _ (long_reads1 hr0 hc0) (Nat.le_refl _) ?_).mono ?_
  · rw [← h]
    simp only [diaphonelaw05_Long.f, diaphonelaw05_Long.l0, long1.f, rd_L1]
    have e1 : wrap64 1 = 1 := by kernel_rfl
    by_cases h1 : 100 < l0.length
    · have h1' : (100 : Int) < (l0.length : Int) := by omega
      simp [h1, h1']
    · have h1' : ¬ (100 : Int) < (l0.length : Int) := by omega
      simp [h1, h1', e1]
  · rintro e w' ⟨rfl, hd⟩
    refine ⟨rfl, ?_⟩
    exact (below_alloc (Below.refl _ w) _).trans (by have := hd.below; simp only [World.alloc, Array.size_push] at this ⊢; exact this.mono (by omega))

theorem long2.calls (A0 : Option Addr) (c0 : Nat) (l0 : List Int) (A1 : Option Addr) (c1 : Nat) (l1 : List Int) (r : Bool) (w : World) (hr0 : Kd.C (Kd.int .i64) w A0 l0.length l0) (hc0 : l0.length ≤ c0)
    (hr1 : Kd.C (Kd.int .i64) w A1 l1.length l1) (hc1 : l1.length ≤ c1) (h : long2.f l0 l1 = some r) :
    Calls Try.prog 15 #[.slice (some ⟨w.heap.size, 0, none⟩) 2 2] (w.alloc (.cells #[.slice A0 l0.length c0, .slice A1 l1.length c1] 22 (0, 0))) fun e w' => e = .returned (.bool r) ∧ Below w.heap.size w w' := by
  refine (diaphonelaw05_Long.calls 4 (some ⟨w.heap.size, 0, none⟩) 2 [l0, l1] r _ (long_reads2 hr0 hc0 hr1 hc1) (Nat.le_refl _) ?_).mono ?_
  · rw [← h]
    simp only [diaphonelaw05_Long.f, diaphonelaw05_Long.l0, long2.f, rd_L1]
    have e1 : wrap64 1 = 1 := by kernel_rfl
    have e2 : wrap64 2 = 2 := by kernel_rfl
    by_cases h1 : 100 < l0.length
    · have h1' : (100 : Int) < (l0.length : Int) := by omega
      simp [h1, h1']
    · have h1' : ¬ (100 : Int) < (l0.length : Int) := by omega
      by_cases h2 : 100 < l1.length
      · have h2' : (100 : Int) < (l1.length : Int) := by omega
        simp [h1, h1', h2, h2', e1]
      · have h2' : ¬ (100 : Int) < (l1.length : Int) := by omega
        simp [h1, h1', h2, h2', e1, e2]
  · rintro e w' ⟨rfl, hd⟩
    refine ⟨rfl, ?_⟩
    exact (below_alloc (Below.refl _ w) _).trans (by have := hd.below; simp only [World.alloc, Array.size_push] at this ⊢; exact this.mono (by omega))
end Go.Proofs.Ytlbhedhbakhhlaa.Q

namespace Go.Proofs.Ytlbhedhbakhhlaa.Q
open Go.RowKit Go.Proofs.YtlbhedhbakhhlaaW.PrintWords Go.Proofs.YtlbhedhbakhhlaaW.PrintLast Go.Proofs.YtlbhedhbakhhlaaW.PrintMore
attribute [local go_sem] max2_int min2_int max_two min_two max_three min_three max_four min_four   -- for this text's walks alone
set_option linter.unusedVariables false
set_option linter.unusedSimpArgs false

/-! ### diaphonelaw05_EchoForms: function 7 -/
def diaphonelaw05_EchoForms.f (k : Nat) (l0 : List Int) (l1 : List Int) : Option (Bool) := (long2.f l0 l1).bind fun t101 => (if t101 = true then ((diaphonelaw05_sane.f k).bind fun t102 => (some t102)) else ((echo_Normal.f k l0).bind fun bt103 => ((diaphoneref05_Normal.f k l0).bind fun bt107 => ((echo_Same.f k l0 l1).bind fun bt111 => ((diaphoneref05_Same.f k l0 l1).bind fun bt113 => ((echo_Alike.f k l0 l1).bind fun bt115 => ((diaphoneref05_Alike.f k l0 l1).bind fun bt117 => ((diaphoneref05_SameInts.f k bt103.1 bt107.1).bind fun t119 => (if t119 = true then (if bt103.2 = bt107.2 then (if (bt111.1 == bt113.1) = true then (if bt111.2 = bt113.2 then (if (bt115.1 == bt117.1) = true then (if bt115.2 = bt117.2 then (if bt115.1 = true then (if bt111.1 = true then ((diaphonelaw05_sane.f k).bind fun t120 => (some t120)) else (some false)) else ((diaphonelaw05_sane.f k).bind fun t121 => (some t121))) else (some false)) else (some false)) else (some false)) else (some false)) else (some false)) else (some false))))))))))
theorem diaphonelaw05_EchoForms.mono : ∀ a0 a1 k, LeO (diaphonelaw05_EchoForms.f k a0 a1) (diaphonelaw05_EchoForms.f (k + 1) a0 a1) := by
  intro a0 a1 k
  unfold diaphonelaw05_EchoForms.f
  repeat' first
      | (with_reducible exact diaphonelaw05_sane.mono _)
      | (with_reducible exact diaphoneref05_Alike.mono _ _ _)
      | (with_reducible exact diaphoneref05_Normal.mono _ _)
      | (with_reducible exact diaphoneref05_Same.mono _ _ _)
      | (with_reducible exact diaphoneref05_SameInts.mono _ _ _)
      | (with_reducible exact echo_Alike.mono _ _ _)
      | (with_reducible exact echo_Normal.mono _ _)
      | (with_reducible exact echo_Same.mono _ _ _)
      | (with_reducible exact LeO.refl _)
      | (with_reducible exact LeO.none _)
      | (with_reducible refine LeO.ite ?_ ?_)
      | (with_reducible refine LeO.bind ?_ (fun _ => ?_))
      | exact diaphonelaw05_sane.mono _
      | exact diaphoneref05_Alike.mono _ _ _
      | exact diaphoneref05_Normal.mono _ _
      | exact diaphoneref05_Same.mono _ _ _
      | exact diaphoneref05_SameInts.mono _ _ _
      | exact echo_Alike.mono _ _ _
      | exact echo_Normal.mono _ _
      | exact echo_Same.mono _ _ _
      | exact LeO.none _
      | refine LeO.ite ?_ ?_
      | refine LeO.bind ?_ (fun _ => ?_)
set_option maxHeartbeats 8000000 in
set_option maxRecDepth 100000 in
theorem diaphonelaw05_EchoForms.calls (k : Nat) (A0 : Option Addr) (c0 : Nat) (l0 : List Int) (A1 : Option Addr) (c1 : Nat) (l1 : List Int) (r : Bool) (hrt : r = true) (w : World) (hr0 : Kd.C (Kd.int .i64) w A0 l0.length l0) (hc0 : l0.length ≤ c0) (hr1 : Kd.C (Kd.int .i64) w A1 l1.length l1) (hc1 : l1.length ≤ c1) (h : diaphonelaw05_EchoForms.f k l0 l1 = some r) :
    Calls Try.prog 7 #[.slice A0 l0.length c0, .slice A1 l1.length c1] w fun e w' => e = .returned (.bool r) ∧ Below w.heap.size w w' := by
  have HRT := Aside0.mk hrt
  clear hrt
  have HR0 := Aside0.mk hr0
  have HC0 := Aside0.mk hc0
  clear hr0 hc0
  have HR1 := Aside0.mk hr1
  have HC1 := Aside0.mk hc1
  clear hr1 hc1
  have HB := Aside0.mk (Below.refl w.heap.size w)
  have H : ((long2.f l0 l1).bind fun t101 => (if t101 = true then ((diaphonelaw05_sane.f k).bind fun t102 => (some t102)) else ((echo_Normal.f k l0).bind fun bt103 => ((diaphoneref05_Normal.f k l0).bind fun bt107 => ((echo_Same.f k l0 l1).bind fun bt111 => ((diaphoneref05_Same.f k l0 l1).bind fun bt113 => ((echo_Alike.f k l0 l1).bind fun bt115 => ((diaphoneref05_Alike.f k l0 l1).bind fun bt117 => ((diaphoneref05_SameInts.f k bt103.1 bt107.1).bind fun t119 => (if t119 = true then (if bt103.2 = bt107.2 then (if (bt111.1 == bt113.1) = true then (if bt111.2 = bt113.2 then (if (bt115.1 == bt117.1) = true then (if bt115.2 = bt117.2 then (if bt115.1 = true then (if bt111.1 = true then ((diaphonelaw05_sane.f k).bind fun t120 => (some t120)) else (some false)) else ((diaphonelaw05_sane.f k).bind fun t121 => (some t121))) else (some false)) else (some false)) else (some false)) else (some false)) else (some false)) else (some false))))))))))) = some r := h
  clear h
  replace H := Option.bind_eq_some_iff.mp H
  obtain ⟨t101, A30, H⟩ := H
  replace H : (if t101 = true then ((diaphonelaw05_sane.f k).bind fun t102 => (some t102)) else ((echo_Normal.f k l0).bind fun bt103 => ((diaphoneref05_Normal.f k l0).bind fun bt107 => ((echo_Same.f k l0 l1).bind fun bt111 => ((diaphoneref05_Same.f k l0 l1).bind fun bt113 => ((echo_Alike.f k l0 l1).bind fun bt115 => ((diaphoneref05_Alike.f k l0 l1).bind fun bt117 => ((diaphoneref05_SameInts.f k bt103.1 bt107.1).bind fun t119 => (if t119 = true then (if bt103.2 = bt107.2 then (if (bt111.1 == bt113.1) = true then (if bt111.2 = bt113.2 then (if (bt115.1 == bt117.1) = true then (if bt115.2 = bt117.2 then (if bt115.1 = true then (if bt111.1 = true then ((diaphonelaw05_sane.f k).bind fun t120 => (some t120)) else (some false)) else ((diaphonelaw05_sane.f k).bind fun t121 => (some t121))) else (some false)) else (some false)) else (some false)) else (some false)) else (some false)) else (some false)))))))))) = some r := H
  have A3 := Aside0.mk A30
  clear A30
  by_cases c4 : t101 = true
  · subst c4
    have H1 : ((diaphonelaw05_sane.f k).bind fun t102 => (some t102)) = some r := by rw [if_pos rfl] at H; exact H
    clear H
    have H := H1
    clear H1
    replace H := Option.bind_eq_some_iff.mp H
    obtain ⟨t102, A50, H⟩ := H
    replace H : (some t102) = some r := H
    have A5 := Aside0.mk A50
    clear A50
    obtain rfl := Option.some.inj H
    go_enter Try.func7, Try.ntmps7
    go_wp2_with (first | (go_at_call 15; (with_reducible refine (long2.calls _ _ l0 _ _ l1 true _ ?side1 ?side2 ?side3 ?side4 A3.out).mono ?_); (case side1 => repeat (first | exact HR0.out | (with_reducible refine Kd.C_alloc ?_ _) | (with_reducible refine Kd.C_drewN ?_ _) | (with_reducible refine Kd.C_drew ?_))); (case side2 => exact HC0.out); (case side3 => repeat (first | exact HR1.out | (with_reducible refine Kd.C_alloc ?_ _) | (with_reducible refine Kd.C_drewN ?_ _) | (with_reducible refine Kd.C_drew ?_))); (case side4 => exact HC1.out); rintro e w6 ⟨rfl, hb⟩; skip; have n0_ := Aside0.mk (below_step (by repeat (first | (with_reducible first | exact HB.out | apply below_alloc | apply pw_below_drewN | apply below_drew1) | exact HB.out)) hb); clear HB; have HB := n0_; clear n0_; (try clear hb); (try clear hb2); (try clear hk); (try clear hi)) | ((with_reducible refine gate_callee (f := 16) rfl ?_); refine goesL_ (some 21) rfl rfl Try.func16 (by kernel_rfl) rfl #[] rfl (by (try simp only [List.map_toArray, List.map_cons, List.map_nil]); first | done | rfl | (simp only [List.length_drop, List.length_take]; rfl)) ?_; (with_reducible refine (diaphonelaw05_sane.calls k  t102 _ A5.out).mono ?_); rintro e w7 ⟨rfl, hb⟩; refine ⟨_, rfl, ?_⟩; have n0_ := Aside0.mk (below_step (by repeat (first | (with_reducible first | exact HB.out | apply below_alloc | apply pw_below_drewN | apply below_drew1) | exact HB.out)) hb); clear HB; have HB := n0_; clear n0_; (try clear hb); (try clear hb2); (try clear hk); (try clear hi)))
    go_ret
    exact ⟨by first | rfl | (simp [errW_none, errW_some] <;> rfl) | (simp [*, errW_none, errW_some] <;> rfl), by repeat (first | (with_reducible first | exact HB.out | apply below_alloc | apply pw_below_drewN | apply below_drew1) | exact HB.out)⟩
  · replace c4 := Bool.eq_false_iff.mpr c4
    subst c4
    have H1 : ((echo_Normal.f k l0).bind fun bt103 => ((diaphoneref05_Normal.f k l0).bind fun bt107 => ((echo_Same.f k l0 l1).bind fun bt111 => ((diaphoneref05_Same.f k l0 l1).bind fun bt113 => ((echo_Alike.f k l0 l1).bind fun bt115 => ((diaphoneref05_Alike.f k l0 l1).bind fun bt117 => ((diaphoneref05_SameInts.f k bt103.1 bt107.1).bind fun t119 => (if t119 = true then (if bt103.2 = bt107.2 then (if (bt111.1 == bt113.1) = true then (if bt111.2 = bt113.2 then (if (bt115.1 == bt117.1) = true then (if bt115.2 = bt117.2 then (if bt115.1 = true then (if bt111.1 = true then ((diaphonelaw05_sane.f k).bind fun t120 => (some t120)) else (some false)) else ((diaphonelaw05_sane.f k).bind fun t121 => (some t121))) else (some false)) else (some false)) else (some false)) else (some false)) else (some false)) else (some false))))))))) = some r := by rw [if_neg (show ¬ (false = true) by decide)] at H; exact H
    clear H
    have H := H1
    clear H1
    replace H := Option.bind_eq_some_iff.mp H
    obtain ⟨⟨t103, t104⟩, A80, H⟩ := H
    replace H : ((diaphoneref05_Normal.f k l0).bind fun bt107 => ((echo_Same.f k l0 l1).bind fun bt111 => ((diaphoneref05_Same.f k l0 l1).bind fun bt113 => ((echo_Alike.f k l0 l1).bind fun bt115 => ((diaphoneref05_Alike.f k l0 l1).bind fun bt117 => ((diaphoneref05_SameInts.f k t103 bt107.1).bind fun t119 => (if t119 = true then (if t104 = bt107.2 then (if (bt111.1 == bt113.1) = true then (if bt111.2 = bt113.2 then (if (bt115.1 == bt117.1) = true then (if bt115.2 = bt117.2 then (if bt115.1 = true then (if bt111.1 = true then ((diaphonelaw05_sane.f k).bind fun t120 => (some t120)) else (some false)) else ((diaphonelaw05_sane.f k).bind fun t121 => (some t121))) else (some false)) else (some false)) else (some false)) else (some false)) else (some false)) else (some false)))))))) = some r := H
    have A8 := Aside0.mk A80
    clear A80
    replace H := Option.bind_eq_some_iff.mp H
    obtain ⟨⟨t107, t108⟩, A90, H⟩ := H
    replace H : ((echo_Same.f k l0 l1).bind fun bt111 => ((diaphoneref05_Same.f k l0 l1).bind fun bt113 => ((echo_Alike.f k l0 l1).bind fun bt115 => ((diaphoneref05_Alike.f k l0 l1).bind fun bt117 => ((diaphoneref05_SameInts.f k t103 t107).bind fun t119 => (if t119 = true then (if t104 = t108 then (if (bt111.1 == bt113.1) = true then (if bt111.2 = bt113.2 then (if (bt115.1 == bt117.1) = true then (if bt115.2 = bt117.2 then (if bt115.1 = true then (if bt111.1 = true then ((diaphonelaw05_sane.f k).bind fun t120 => (some t120)) else (some false)) else ((diaphonelaw05_sane.f k).bind fun t121 => (some t121))) else (some false)) else (some false)) else (some false)) else (some false)) else (some false)) else (some false))))))) = some r := H
    have A9 := Aside0.mk A90
    clear A90
    replace H := Option.bind_eq_some_iff.mp H
    obtain ⟨⟨t111, t112⟩, A100, H⟩ := H
    replace H : ((diaphoneref05_Same.f k l0 l1).bind fun bt113 => ((echo_Alike.f k l0 l1).bind fun bt115 => ((diaphoneref05_Alike.f k l0 l1).bind fun bt117 => ((diaphoneref05_SameInts.f k t103 t107).bind fun t119 => (if t119 = true then (if t104 = t108 then (if (t111 == bt113.1) = true then (if t112 = bt113.2 then (if (bt115.1 == bt117.1) = true then (if bt115.2 = bt117.2 then (if bt115.1 = true then (if t111 = true then ((diaphonelaw05_sane.f k).bind fun t120 => (some t120)) else (some false)) else ((diaphonelaw05_sane.f k).bind fun t121 => (some t121))) else (some false)) else (some false)) else (some false)) else (some false)) else (some false)) else (some false)))))) = some r := H
    have A10 := Aside0.mk A100
    clear A100
    replace H := Option.bind_eq_some_iff.mp H
    obtain ⟨⟨t113, t114⟩, A110, H⟩ := H
    replace H : ((echo_Alike.f k l0 l1).bind fun bt115 => ((diaphoneref05_Alike.f k l0 l1).bind fun bt117 => ((diaphoneref05_SameInts.f k t103 t107).bind fun t119 => (if t119 = true then (if t104 = t108 then (if (t111 == t113) = true then (if t112 = t114 then (if (bt115.1 == bt117.1) = true then (if bt115.2 = bt117.2 then (if bt115.1 = true then (if t111 = true then ((diaphonelaw05_sane.f k).bind fun t120 => (some t120)) else (some false)) else ((diaphonelaw05_sane.f k).bind fun t121 => (some t121))) else (some false)) else (some false)) else (some false)) else (some false)) else (some false)) else (some false))))) = some r := H
    have A11 := Aside0.mk A110
    clear A110
    replace H := Option.bind_eq_some_iff.mp H
    obtain ⟨⟨t115, t116⟩, A120, H⟩ := H
    replace H : ((diaphoneref05_Alike.f k l0 l1).bind fun bt117 => ((diaphoneref05_SameInts.f k t103 t107).bind fun t119 => (if t119 = true then (if t104 = t108 then (if (t111 == t113) = true then (if t112 = t114 then (if (t115 == bt117.1) = true then (if t116 = bt117.2 then (if t115 = true then (if t111 = true then ((diaphonelaw05_sane.f k).bind fun t120 => (some t120)) else (some false)) else ((diaphonelaw05_sane.f k).bind fun t121 => (some t121))) else (some false)) else (some false)) else (some false)) else (some false)) else (some false)) else (some false)))) = some r := H
    have A12 := Aside0.mk A120
    clear A120
    replace H := Option.bind_eq_some_iff.mp H
    obtain ⟨⟨t117, t118⟩, A130, H⟩ := H
    replace H : ((diaphoneref05_SameInts.f k t103 t107).bind fun t119 => (if t119 = true then (if t104 = t108 then (if (t111 == t113) = true then (if t112 = t114 then (if (t115 == t117) = true then (if t116 = t118 then (if t115 = true then (if t111 = true then ((diaphonelaw05_sane.f k).bind fun t120 => (some t120)) else (some false)) else ((diaphonelaw05_sane.f k).bind fun t121 => (some t121))) else (some false)) else (some false)) else (some false)) else (some false)) else (some false)) else (some false))) = some r := H
    have A13 := Aside0.mk A130
    clear A130
    replace H := Option.bind_eq_some_iff.mp H
    obtain ⟨t119, A140, H⟩ := H
    replace H : (if t119 = true then (if t104 = t108 then (if (t111 == t113) = true then (if t112 = t114 then (if (t115 == t117) = true then (if t116 = t118 then (if t115 = true then (if t111 = true then ((diaphonelaw05_sane.f k).bind fun t120 => (some t120)) else (some false)) else ((diaphonelaw05_sane.f k).bind fun t121 => (some t121))) else (some false)) else (some false)) else (some false)) else (some false)) else (some false)) else (some false)) = some r := H
    have A14 := Aside0.mk A140
    clear A140
    by_cases c15 : t119 = true
    · subst c15
      have H1 : (if t104 = t108 then (if (t111 == t113) = true then (if t112 = t114 then (if (t115 == t117) = true then (if t116 = t118 then (if t115 = true then (if t111 = true then ((diaphonelaw05_sane.f k).bind fun t120 => (some t120)) else (some false)) else ((diaphonelaw05_sane.f k).bind fun t121 => (some t121))) else (some false)) else (some false)) else (some false)) else (some false)) else (some false)) = some r := by rw [if_pos rfl] at H; exact H
      clear H
      have H := H1
      clear H1
      by_cases c16 : t104 = t108
      · rw [if_pos c16] at H
        have c16b0 : (t104 == t108) = true := beq_iff_eq.mpr c16
        have c16b1 : (t104 != t108) = false := bne_eq_false_iff_eq.mpr c16
        clear c16
        by_cases c17 : (t111 == t113) = true
        · rw [if_pos c17] at H
          have c17b0 : (t111 == t113) = true := c17
          (try (have c17b1 : decide (t111 = t113) = true := by simpa using c17))
          (try (have c17b2 : (t111 == t113) = true := by simpa using c17))
          clear c17
          by_cases c18 : t112 = t114
          · rw [if_pos c18] at H
            have c18b0 : (t112 == t114) = true := beq_iff_eq.mpr c18
            have c18b1 : (t112 != t114) = false := bne_eq_false_iff_eq.mpr c18
            clear c18
            by_cases c19 : (t115 == t117) = true
            · rw [if_pos c19] at H
              have c19b0 : (t115 == t117) = true := c19
              (try (have c19b1 : decide (t115 = t117) = true := by simpa using c19))
              (try (have c19b2 : (t115 == t117) = true := by simpa using c19))
              clear c19
              by_cases c20 : t116 = t118
              · rw [if_pos c20] at H
                have c20b0 : (t116 == t118) = true := beq_iff_eq.mpr c20
                have c20b1 : (t116 != t118) = false := bne_eq_false_iff_eq.mpr c20
                clear c20
                by_cases c21 : t115 = true
                · subst c21
                  have H1 : (if t111 = true then ((diaphonelaw05_sane.f k).bind fun t120 => (some t120)) else (some false)) = some r := by rw [if_pos rfl] at H; exact H
                  clear H
                  have H := H1
                  clear H1
                  by_cases c22 : t111 = true
                  · subst c22
                    have H1 : ((diaphonelaw05_sane.f k).bind fun t120 => (some t120)) = some r := by rw [if_pos rfl] at H; exact H
                    clear H
                    have H := H1
                    clear H1
                    replace H := Option.bind_eq_some_iff.mp H
                    obtain ⟨t120, A230, H⟩ := H
                    replace H : (some t120) = some r := H
                    have A23 := Aside0.mk A230
                    clear A230
                    obtain rfl := Option.some.inj H
                    go_enter Try.func7, Try.ntmps7
                    go_wp2_with (first | (go_at_call 15; (with_reducible refine (long2.calls _ _ l0 _ _ l1 false _ ?side1 ?side2 ?side3 ?side4 A3.out).mono ?_); (case side1 => repeat (first | exact HR0.out | (with_reducible refine Kd.C_alloc ?_ _) | (with_reducible refine Kd.C_drewN ?_ _) | (with_reducible refine Kd.C_drew ?_))); (case side2 => exact HC0.out); (case side3 => repeat (first | exact HR1.out | (with_reducible refine Kd.C_alloc ?_ _) | (with_reducible refine Kd.C_drewN ?_ _) | (with_reducible refine Kd.C_drew ?_))); (case side4 => exact HC1.out); rintro e w24 ⟨rfl, hb⟩; skip; have n0_ := Aside0.mk (below_step (by repeat (first | (with_reducible first | exact HB.out | apply below_alloc | apply pw_below_drewN | apply below_drew1) | exact HB.out)) hb); clear HB; have HB := n0_; clear n0_; (try clear hb); (try clear hb2); (try clear hk); (try clear hi)) | ((with_reducible refine gate_callee (f := 26) rfl ?_); refine goesL_ (some 24) rfl rfl Try.func26 (by kernel_rfl) rfl #[.slice A0 l0.length c0] rfl (by (try simp only [List.map_toArray, List.map_cons, List.map_nil]); first | done | rfl | (simp only [List.length_drop, List.length_take]; rfl)) ?_; (with_reducible refine (echo_Normal.calls k _ _ l0 t103 t104 _ ?side1 ?side2 A8.out).mono ?_); (case side1 => repeat (first | exact (Kd.C_below HR0.out HB.out) | (with_reducible refine Kd.C_alloc ?_ _) | (with_reducible refine Kd.C_drewN ?_ _) | (with_reducible refine Kd.C_drew ?_))); (case side2 => exact HC0.out); rintro e w25 ⟨v105, rfl, ho0, hb⟩; refine ⟨_, rfl, ?_⟩; have n0_ := Aside0.mk (Kd.R_lower ho0 (below_size (by repeat (first | (with_reducible first | exact HB.out | apply below_alloc | apply pw_below_drewN | apply below_drew1) | exact HB.out)))); have n1_ := Aside0.mk (below_step (by repeat (first | (with_reducible first | exact HB.out | apply below_alloc | apply pw_below_drewN | apply below_drew1) | exact HB.out)) hb); clear HB; have HO106 := n0_; have HB := n1_; clear n0_ n1_; (try clear hb); (try clear hb2); (try clear hk); (try clear hi); (try clear ho0)) | ((with_reducible refine gate_callee (f := 31) rfl ?_); refine goesL_ (some 29) rfl rfl Try.func31 (by kernel_rfl) rfl #[.slice A0 l0.length c0] rfl (by (try simp only [List.map_toArray, List.map_cons, List.map_nil]); first | done | rfl | (simp only [List.length_drop, List.length_take]; rfl)) ?_; (with_reducible refine (diaphoneref05_Normal.calls k _ _ l0 t107 t108 _ ?side1 ?side2 A9.out).mono ?_); (case side1 => repeat (first | exact (Kd.C_below HR0.out HB.out) | (with_reducible refine Kd.C_alloc ?_ _) | (with_reducible refine Kd.C_drewN ?_ _) | (with_reducible refine Kd.C_drew ?_))); (case side2 => exact HC0.out); rintro e w26 ⟨v109, rfl, ho0, hb⟩; refine ⟨_, rfl, ?_⟩; have n0_ := Aside0.mk (Kd.R_elder' (by (with_reducible repeat (first | apply Kd.R_alloc | apply Kd.R_drewN | apply Kd.R_drew)); exact HO106.out) (Kd.R_base ho0) hb); have n1_ := Aside0.mk (Kd.R_lower (Kd.R_new' ho0 (Kd.R_lt (by (with_reducible repeat (first | apply Kd.R_alloc | apply Kd.R_drewN | apply Kd.R_drew)); exact HO106.out))) (below_size (by repeat (first | (with_reducible first | exact HB.out | apply below_alloc | apply pw_below_drewN | apply below_drew1) | exact HB.out)))); have n2_ := Aside0.mk (below_step (by repeat (first | (with_reducible first | exact HB.out | apply below_alloc | apply pw_below_drewN | apply below_drew1) | exact HB.out)) hb); clear HO106; clear HB; have HO106 := n0_; have HO110 := n1_; have HB := n2_; clear n0_ n1_ n2_; (try clear hb); (try clear hb2); (try clear hk); (try clear hi); (try clear ho0)) | ((with_reducible refine gate_callee (f := 32) rfl ?_); refine goesL_ (some 35) rfl rfl Try.func32 (by kernel_rfl) rfl #[.slice A0 l0.length c0, .slice A1 l1.length c1] rfl (by (try simp only [List.map_toArray, List.map_cons, List.map_nil]); first | done | rfl | (simp only [List.length_drop, List.length_take]; rfl)) ?_; (with_reducible refine (echo_Same.calls k _ _ l0 _ _ l1 true t112 _ ?side1 ?side2 ?side3 ?side4 A10.out).mono ?_); (case side1 => repeat (first | exact (Kd.C_below HR0.out HB.out) | (with_reducible refine Kd.C_alloc ?_ _) | (with_reducible refine Kd.C_drewN ?_ _) | (with_reducible refine Kd.C_drew ?_))); (case side2 => exact HC0.out); (case side3 => repeat (first | exact (Kd.C_below HR1.out HB.out) | (with_reducible refine Kd.C_alloc ?_ _) | (with_reducible refine Kd.C_drewN ?_ _) | (with_reducible refine Kd.C_drew ?_))); (case side4 => exact HC1.out); rintro e w27 ⟨rfl, hb⟩; refine ⟨_, rfl, ?_⟩; have n0_ := Aside0.mk (Kd.R_below (by (with_reducible repeat (first | apply Kd.R_alloc | apply Kd.R_drewN | apply Kd.R_drew)); exact HO106.out) hb); have n1_ := Aside0.mk (Kd.R_below (by (with_reducible repeat (first | apply Kd.R_alloc | apply Kd.R_drewN | apply Kd.R_drew)); exact HO110.out) hb); have n2_ := Aside0.mk (below_step (by repeat (first | (with_reducible first | exact HB.out | apply below_alloc | apply pw_below_drewN | apply below_drew1) | exact HB.out)) hb); clear HO106; clear HO110; clear HB; have HO106 := n0_; have HO110 := n1_; have HB := n2_; clear n0_ n1_ n2_; (try clear hb); (try clear hb2); (try clear hk); (try clear hi)) | ((with_reducible refine gate_callee (f := 33) rfl ?_); refine goesL_ (some 41) rfl rfl Try.func33 (by kernel_rfl) rfl #[.slice A0 l0.length c0, .slice A1 l1.length c1] rfl (by (try simp only [List.map_toArray, List.map_cons, List.map_nil]); first | done | rfl | (simp only [List.length_drop, List.length_take]; rfl)) ?_; (with_reducible refine (diaphoneref05_Same.calls k _ _ l0 _ _ l1 t113 t114 _ ?side1 ?side2 ?side3 ?side4 A11.out).mono ?_); (case side1 => repeat (first | exact (Kd.C_below HR0.out HB.out) | (with_reducible refine Kd.C_alloc ?_ _) | (with_reducible refine Kd.C_drewN ?_ _) | (with_reducible refine Kd.C_drew ?_))); (case side2 => exact HC0.out); (case side3 => repeat (first | exact (Kd.C_below HR1.out HB.out) | (with_reducible refine Kd.C_alloc ?_ _) | (with_reducible refine Kd.C_drewN ?_ _) | (with_reducible refine Kd.C_drew ?_))); (case side4 => exact HC1.out); rintro e w28 ⟨rfl, hb⟩; refine ⟨_, rfl, ?_⟩; have n0_ := Aside0.mk (Kd.R_below (by (with_reducible repeat (first | apply Kd.R_alloc | apply Kd.R_drewN | apply Kd.R_drew)); exact HO106.out) hb); have n1_ := Aside0.mk (Kd.R_below (by (with_reducible repeat (first | apply Kd.R_alloc | apply Kd.R_drewN | apply Kd.R_drew)); exact HO110.out) hb); have n2_ := Aside0.mk (below_step (by repeat (first | (with_reducible first | exact HB.out | apply below_alloc | apply pw_below_drewN | apply below_drew1) | exact HB.out)) hb); clear HO106; clear HO110; clear HB; have HO106 := n0_; have HO110 := n1_; have HB := n2_; clear n0_ n1_ n2_; (try clear hb); (try clear hb2); (try clear hk); (try clear hi)) | ((with_reducible refine gate_callee (f := 30) rfl ?_); refine goesL_ (some 47) rfl rfl Try.func30 (by kernel_rfl) rfl #[.slice A0 l0.length c0, .slice A1 l1.length c1] rfl (by (try simp only [List.map_toArray, List.map_cons, List.map_nil]); first | done | rfl | (simp only [List.length_drop, List.length_take]; rfl)) ?_; (with_reducible refine (echo_Alike.calls k _ _ l0 _ _ l1 true t116 _ ?side1 ?side2 ?side3 ?side4 A12.out).mono ?_); (case side1 => repeat (first | exact (Kd.C_below HR0.out HB.out) | (with_reducible refine Kd.C_alloc ?_ _) | (with_reducible refine Kd.C_drewN ?_ _) | (with_reducible refine Kd.C_drew ?_))); (case side2 => exact HC0.out); (case side3 => repeat (first | exact (Kd.C_below HR1.out HB.out) | (with_reducible refine Kd.C_alloc ?_ _) | (with_reducible refine Kd.C_drewN ?_ _) | (with_reducible refine Kd.C_drew ?_))); (case side4 => exact HC1.out); rintro e w29 ⟨rfl, hb⟩; refine ⟨_, rfl, ?_⟩; have n0_ := Aside0.mk (Kd.R_below (by (with_reducible repeat (first | apply Kd.R_alloc | apply Kd.R_drewN | apply Kd.R_drew)); exact HO106.out) hb); have n1_ := Aside0.mk (Kd.R_below (by (with_reducible repeat (first | apply Kd.R_alloc | apply Kd.R_drewN | apply Kd.R_drew)); exact HO110.out) hb); have n2_ := Aside0.mk (below_step (by repeat (first | (with_reducible first | exact HB.out | apply below_alloc | apply pw_below_drewN | apply below_drew1) | exact HB.out)) hb); clear HO106; clear HO110; clear HB; have HO106 := n0_; have HO110 := n1_; have HB := n2_; clear n0_ n1_ n2_; (try clear hb); (try clear hb2); (try clear hk); (try clear hi)) | ((with_reducible refine gate_callee (f := 34) rfl ?_); refine goesL_ (some 53) rfl rfl Try.func34 (by kernel_rfl) rfl #[.slice A0 l0.length c0, .slice A1 l1.length c1] rfl (by (try simp only [List.map_toArray, List.map_cons, List.map_nil]); first | done | rfl | (simp only [List.length_drop, List.length_take]; rfl)) ?_; (with_reducible refine (diaphoneref05_Alike.calls k _ _ l0 _ _ l1 t117 t118 _ ?side1 ?side2 ?side3 ?side4 A13.out).mono ?_); (case side1 => repeat (first | exact (Kd.C_below HR0.out HB.out) | (with_reducible refine Kd.C_alloc ?_ _) | (with_reducible refine Kd.C_drewN ?_ _) | (with_reducible refine Kd.C_drew ?_))); (case side2 => exact HC0.out); (case side3 => repeat (first | exact (Kd.C_below HR1.out HB.out) | (with_reducible refine Kd.C_alloc ?_ _) | (with_reducible refine Kd.C_drewN ?_ _) | (with_reducible refine Kd.C_drew ?_))); (case side4 => exact HC1.out); rintro e w30 ⟨rfl, hb⟩; refine ⟨_, rfl, ?_⟩; have n0_ := Aside0.mk (Kd.R_below (by (with_reducible repeat (first | apply Kd.R_alloc | apply Kd.R_drewN | apply Kd.R_drew)); exact HO106.out) hb); have n1_ := Aside0.mk (Kd.R_below (by (with_reducible repeat (first | apply Kd.R_alloc | apply Kd.R_drewN | apply Kd.R_drew)); exact HO110.out) hb); have n2_ := Aside0.mk (below_step (by repeat (first | (with_reducible first | exact HB.out | apply below_alloc | apply pw_below_drewN | apply below_drew1) | exact HB.out)) hb); clear HO106; clear HO110; clear HB; have HO106 := n0_; have HO110 := n1_; have HB := n2_; clear n0_ n1_ n2_; (try clear hb); (try clear hb2); (try clear hk); (try clear hi); obtain ⟨Ao31, co31, eo31⟩ := Kd.R_slice HO106.out; subst eo31; obtain ⟨Ao32, co32, eo32⟩ := Kd.R_slice HO110.out; subst eo32) | ((with_reducible refine gate_callee (f := 23) rfl ?_); refine goesL_ (some 58) rfl rfl Try.func23 (by kernel_rfl) rfl #[.slice Ao31 t103.length co31, .slice Ao32 t107.length co32] rfl (by (try simp only [List.map_toArray, List.map_cons, List.map_nil]); first | done | rfl | (simp only [List.length_drop, List.length_take]; rfl)) ?_; (with_reducible refine (diaphoneref05_SameInts.calls k _ _ t103 _ _ t107 true _ ?side1 ?side2 ?side3 ?side4 A14.out).mono ?_); (case side1 => repeat (first | exact (Kd.R_reads' HO106.out).2.2 | (with_reducible refine Kd.C_alloc ?_ _) | (with_reducible refine Kd.C_drewN ?_ _) | (with_reducible refine Kd.C_drew ?_))); (case side2 => exact (Kd.R_reads' HO106.out).2.1); (case side3 => repeat (first | exact (Kd.R_reads' HO110.out).2.2 | (with_reducible refine Kd.C_alloc ?_ _) | (with_reducible refine Kd.C_drewN ?_ _) | (with_reducible refine Kd.C_drew ?_))); (case side4 => exact (Kd.R_reads' HO110.out).2.1); rintro e w' ⟨rfl, ⟨nd, rfl⟩⟩; refine ⟨_, rfl, ?_⟩) | (go_at_call 16; (with_reducible refine (diaphonelaw05_sane.calls k  t120 _ A23.out).mono ?_); rintro e w33 ⟨rfl, hb⟩; have n0_ := Aside0.mk (Kd.R_below (by (with_reducible repeat (first | apply Kd.R_alloc | apply Kd.R_drewN | apply Kd.R_drew)); exact HO106.out) hb); have n1_ := Aside0.mk (Kd.R_below (by (with_reducible repeat (first | apply Kd.R_alloc | apply Kd.R_drewN | apply Kd.R_drew)); exact HO110.out) hb); have n2_ := Aside0.mk (below_step (by repeat (first | (with_reducible first | exact HB.out | apply below_alloc | apply pw_below_drewN | apply below_drew1) | exact HB.out)) hb); clear HO106; clear HO110; clear HB; have HO106 := n0_; have HO110 := n1_; have HB := n2_; clear n0_ n1_ n2_; (try clear hb); (try clear hb2); (try clear hk); (try clear hi)))
                    go_ret
                    exact ⟨by first | rfl | (simp [errW_none, errW_some] <;> rfl) | (simp [*, errW_none, errW_some] <;> rfl), by repeat (first | (with_reducible first | exact HB.out | apply below_alloc | apply pw_below_drewN | apply below_drew1) | exact HB.out)⟩
                  · replace c22 := Bool.eq_false_iff.mpr c22
                    subst c22
                    have H1 : (some false) = some r := by rw [if_neg (show ¬ (false = true) by decide)] at H; exact H
                    clear H
                    have H := H1
                    clear H1
                    exact absurd (Option.some.inj H) (by rw [HRT.out]; decide)
                · replace c21 := Bool.eq_false_iff.mpr c21
                  subst c21
                  have H1 : ((diaphonelaw05_sane.f k).bind fun t121 => (some t121)) = some r := by rw [if_neg (show ¬ (false = true) by decide)] at H; exact H
                  clear H
                  have H := H1
                  clear H1
                  replace H := Option.bind_eq_some_iff.mp H
                  obtain ⟨t121, A430, H⟩ := H
                  replace H : (some t121) = some r := H
                  have A43 := Aside0.mk A430
                  clear A430
                  obtain rfl := Option.some.inj H
                  go_enter Try.func7, Try.ntmps7
                  go_wp2_with (first | (go_at_call 15; (with_reducible refine (long2.calls _ _ l0 _ _ l1 false _ ?side1 ?side2 ?side3 ?side4 A3.out).mono ?_); (case side1 => repeat (first | exact HR0.out | (with_reducible refine Kd.C_alloc ?_ _) | (with_reducible refine Kd.C_drewN ?_ _) | (with_reducible refine Kd.C_drew ?_))); (case side2 => exact HC0.out); (case side3 => repeat (first | exact HR1.out | (with_reducible refine Kd.C_alloc ?_ _) | (with_reducible refine Kd.C_drewN ?_ _) | (with_reducible refine Kd.C_drew ?_))); (case side4 => exact HC1.out); rintro e w44 ⟨rfl, hb⟩; skip; have n0_ := Aside0.mk (below_step (by repeat (first | (with_reducible first | exact HB.out | apply below_alloc | apply pw_below_drewN | apply below_drew1) | exact HB.out)) hb); clear HB; have HB := n0_; clear n0_; (try clear hb); (try clear hb2); (try clear hk); (try clear hi)) | ((with_reducible refine gate_callee (f := 26) rfl ?_); refine goesL_ (some 24) rfl rfl Try.func26 (by kernel_rfl) rfl #[.slice A0 l0.length c0] rfl (by (try simp only [List.map_toArray, List.map_cons, List.map_nil]); first | done | rfl | (simp only [List.length_drop, List.length_take]; rfl)) ?_; (with_reducible refine (echo_Normal.calls k _ _ l0 t103 t104 _ ?side1 ?side2 A8.out).mono ?_); (case side1 => repeat (first | exact (Kd.C_below HR0.out HB.out) | (with_reducible refine Kd.C_alloc ?_ _) | (with_reducible refine Kd.C_drewN ?_ _) | (with_reducible refine Kd.C_drew ?_))); (case side2 => exact HC0.out); rintro e w45 ⟨v105, rfl, ho0, hb⟩; refine ⟨_, rfl, ?_⟩; have n0_ := Aside0.mk (Kd.R_lower ho0 (below_size (by repeat (first | (with_reducible first | exact HB.out | apply below_alloc | apply pw_below_drewN | apply below_drew1) | exact HB.out)))); have n1_ := Aside0.mk (below_step (by repeat (first | (with_reducible first | exact HB.out | apply below_alloc | apply pw_below_drewN | apply below_drew1) | exact HB.out)) hb); clear HB; have HO106 := n0_; have HB := n1_; clear n0_ n1_; (try clear hb); (try clear hb2); (try clear hk); (try clear hi); (try clear ho0)) | ((with_reducible refine gate_callee (f := 31) rfl ?_); refine goesL_ (some 29) rfl rfl Try.func31 (by kernel_rfl) rfl #[.slice A0 l0.length c0] rfl (by (try simp only [List.map_toArray, List.map_cons, List.map_nil]); first | done | rfl | (simp only [List.length_drop, List.length_take]; rfl)) ?_; (with_reducible refine (diaphoneref05_Normal.calls k _ _ l0 t107 t108 _ ?side1 ?side2 A9.out).mono ?_); (case side1 => repeat (first | exact (Kd.C_below HR0.out HB.out) | (with_reducible refine Kd.C_alloc ?_ _) | (with_reducible refine Kd.C_drewN ?_ _) | (with_reducible refine Kd.C_drew ?_))); (case side2 => exact HC0.out); rintro e w46 ⟨v109, rfl, ho0, hb⟩; refine ⟨_, rfl, ?_⟩; have n0_ := Aside0.mk (Kd.R_elder' (by (with_reducible repeat (first | apply Kd.R_alloc | apply Kd.R_drewN | apply Kd.R_drew)); exact HO106.out) (Kd.R_base ho0) hb); have n1_ := Aside0.mk (Kd.R_lower (Kd.R_new' ho0 (Kd.R_lt (by (with_reducible repeat (first | apply Kd.R_alloc | apply Kd.R_drewN | apply Kd.R_drew)); exact HO106.out))) (below_size (by repeat (first | (with_reducible first | exact HB.out | apply below_alloc | apply pw_below_drewN | apply below_drew1) | exact HB.out)))); have n2_ := Aside0.mk (below_step (by repeat (first | (with_reducible first | exact HB.out | apply below_alloc | apply pw_below_drewN | apply below_drew1) | exact HB.out)) hb); clear HO106; clear HB; have HO106 := n0_; have HO110 := n1_; have HB := n2_; clear n0_ n1_ n2_; (try clear hb); (try clear hb2); (try clear hk); (try clear hi); (try clear ho0)) | ((with_reducible refine gate_callee (f := 32) rfl ?_); refine goesL_ (some 35) rfl rfl Try.func32 (by kernel_rfl) rfl #[.slice A0 l0.length c0, .slice A1 l1.length c1] rfl (by (try simp only [List.map_toArray, List.map_cons, List.map_nil]); first | done | rfl | (simp only [List.length_drop, List.length_take]; rfl)) ?_; (with_reducible refine (echo_Same.calls k _ _ l0 _ _ l1 t111 t112 _ ?side1 ?side2 ?side3 ?side4 A10.out).mono ?_); (case side1 => repeat (first | exact (Kd.C_below HR0.out HB.out) | (with_reducible refine Kd.C_alloc ?_ _) | (with_reducible refine Kd.C_drewN ?_ _) | (with_reducible refine Kd.C_drew ?_))); (case side2 => exact HC0.out); (case side3 => repeat (first | exact (Kd.C_below HR1.out HB.out) | (with_reducible refine Kd.C_alloc ?_ _) | (with_reducible refine Kd.C_drewN ?_ _) | (with_reducible refine Kd.C_drew ?_))); (case side4 => exact HC1.out); rintro e w47 ⟨rfl, hb⟩; refine ⟨_, rfl, ?_⟩; have n0_ := Aside0.mk (Kd.R_below (by (with_reducible repeat (first | apply Kd.R_alloc | apply Kd.R_drewN | apply Kd.R_drew)); exact HO106.out) hb); have n1_ := Aside0.mk (Kd.R_below (by (with_reducible repeat (first | apply Kd.R_alloc | apply Kd.R_drewN | apply Kd.R_drew)); exact HO110.out) hb); have n2_ := Aside0.mk (below_step (by repeat (first | (with_reducible first | exact HB.out | apply below_alloc | apply pw_below_drewN | apply below_drew1) | exact HB.out)) hb); clear HO106; clear HO110; clear HB; have HO106 := n0_; have HO110 := n1_; have HB := n2_; clear n0_ n1_ n2_; (try clear hb); (try clear hb2); (try clear hk); (try clear hi)) | ((with_reducible refine gate_callee (f := 33) rfl ?_); refine goesL_ (some 41) rfl rfl Try.func33 (by kernel_rfl) rfl #[.slice A0 l0.length c0, .slice A1 l1.length c1] rfl (by (try simp only [List.map_toArray, List.map_cons, List.map_nil]); first | done | rfl | (simp only [List.length_drop, List.length_take]; rfl)) ?_; (with_reducible refine (diaphoneref05_Same.calls k _ _ l0 _ _ l1 t113 t114 _ ?side1 ?side2 ?side3 ?side4 A11.out).mono ?_); (case side1 => repeat (first | exact (Kd.C_below HR0.out HB.out) | (with_reducible refine Kd.C_alloc ?_ _) | (with_reducible refine Kd.C_drewN ?_ _) | (with_reducible refine Kd.C_drew ?_))); (case side2 => exact HC0.out); (case side3 => repeat (first | exact (Kd.C_below HR1.out HB.out) | (with_reducible refine Kd.C_alloc ?_ _) | (with_reducible refine Kd.C_drewN ?_ _) | (with_reducible refine Kd.C_drew ?_))); (case side4 => exact HC1.out); rintro e w48 ⟨rfl, hb⟩; refine ⟨_, rfl, ?_⟩; have n0_ := Aside0.mk (Kd.R_below (by (with_reducible repeat (first | apply Kd.R_alloc | apply Kd.R_drewN | apply Kd.R_drew)); exact HO106.out) hb); have n1_ := Aside0.mk (Kd.R_below (by (with_reducible repeat (first | apply Kd.R_alloc | apply Kd.R_drewN | apply Kd.R_drew)); exact HO110.out) hb); have n2_ := Aside0.mk (below_step (by repeat (first | (with_reducible first | exact HB.out | apply below_alloc | apply pw_below_drewN | apply below_drew1) | exact HB.out)) hb); clear HO106; clear HO110; clear HB; have HO106 := n0_; have HO110 := n1_; have HB := n2_; clear n0_ n1_ n2_; (try clear hb); (try clear hb2); (try clear hk); (try clear hi)) | ((with_reducible refine gate_callee (f := 30) rfl ?_); refine goesL_ (some 47) rfl rfl Try.func30 (by kernel_rfl) rfl #[.slice A0 l0.length c0, .slice A1 l1.length c1] rfl (by (try simp only [List.map_toArray, List.map_cons, List.map_nil]); first | done | rfl | (simp only [List.length_drop, List.length_take]; rfl)) ?_; (with_reducible refine (echo_Alike.calls k _ _ l0 _ _ l1 false t116 _ ?side1 ?side2 ?side3 ?side4 A12.out).mono ?_); (case side1 => repeat (first | exact (Kd.C_below HR0.out HB.out) | (with_reducible refine Kd.C_alloc ?_ _) | (with_reducible refine Kd.C_drewN ?_ _) | (with_reducible refine Kd.C_drew ?_))); (case side2 => exact HC0.out); (case side3 => repeat (first | exact (Kd.C_below HR1.out HB.out) | (with_reducible refine Kd.C_alloc ?_ _) | (with_reducible refine Kd.C_drewN ?_ _) | (with_reducible refine Kd.C_drew ?_))); (case side4 => exact HC1.out); rintro e w49 ⟨rfl, hb⟩; refine ⟨_, rfl, ?_⟩; have n0_ := Aside0.mk (Kd.R_below (by (with_reducible repeat (first | apply Kd.R_alloc | apply Kd.R_drewN | apply Kd.R_drew)); exact HO106.out) hb); have n1_ := Aside0.mk (Kd.R_below (by (with_reducible repeat (first | apply Kd.R_alloc | apply Kd.R_drewN | apply Kd.R_drew)); exact HO110.out) hb); have n2_ := Aside0.mk (below_step (by repeat (first | (with_reducible first | exact HB.out | apply below_alloc | apply pw_below_drewN | apply below_drew1) | exact HB.out)) hb); clear HO106; clear HO110; clear HB; have HO106 := n0_; have HO110 := n1_; have HB := n2_; clear n0_ n1_ n2_; (try clear hb); (try clear hb2); (try clear hk); (try clear hi)) | ((with_reducible refine gate_callee (f := 34) rfl ?_); refine goesL_ (some 53) rfl rfl Try.func34 (by kernel_rfl) rfl #[.slice A0 l0.length c0, .slice A1 l1.length c1] rfl (by (try simp only [List.map_toArray, List.map_cons, List.map_nil]); first | done | rfl | (simp only [List.length_drop, List.length_take]; rfl)) ?_; (with_reducible refine (diaphoneref05_Alike.calls k _ _ l0 _ _ l1 t117 t118 _ ?side1 ?side2 ?side3 ?side4 A13.out).mono ?_); (case side1 => repeat (first | exact (Kd.C_below HR0.out HB.out) | (with_reducible refine Kd.C_alloc ?_ _) | (with_reducible refine Kd.C_drewN ?_ _) | (with_reducible refine Kd.C_drew ?_))); (case side2 => exact HC0.out); (case side3 => repeat (first | exact (Kd.C_below HR1.out HB.out) | (with_reducible refine Kd.C_alloc ?_ _) | (with_reducible refine Kd.C_drewN ?_ _) | (with_reducible refine Kd.C_drew ?_))); (case side4 => exact HC1.out); rintro e w50 ⟨rfl, hb⟩; refine ⟨_, rfl, ?_⟩; have n0_ := Aside0.mk (Kd.R_below (by (with_reducible repeat (first | apply Kd.R_alloc | apply Kd.R_drewN | apply Kd.R_drew)); exact HO106.out) hb); have n1_ := Aside0.mk (Kd.R_below (by (with_reducible repeat (first | apply Kd.R_alloc | apply Kd.R_drewN | apply Kd.R_drew)); exact HO110.out) hb); have n2_ := Aside0.mk (below_step (by repeat (first | (with_reducible first | exact HB.out | apply below_alloc | apply pw_below_drewN | apply below_drew1) | exact HB.out)) hb); clear HO106; clear HO110; clear HB; have HO106 := n0_; have HO110 := n1_; have HB := n2_; clear n0_ n1_ n2_; (try clear hb); (try clear hb2); (try clear hk); (try clear hi); obtain ⟨Ao51, co51, eo51⟩ := Kd.R_slice HO106.out; subst eo51; obtain ⟨Ao52, co52, eo52⟩ := Kd.R_slice HO110.out; subst eo52) | ((with_reducible refine gate_callee (f := 23) rfl ?_); refine goesL_ (some 58) rfl rfl Try.func23 (by kernel_rfl) rfl #[.slice Ao51 t103.length co51, .slice Ao52 t107.length co52] rfl (by (try simp only [List.map_toArray, List.map_cons, List.map_nil]); first | done | rfl | (simp only [List.length_drop, List.length_take]; rfl)) ?_; (with_reducible refine (diaphoneref05_SameInts.calls k _ _ t103 _ _ t107 true _ ?side1 ?side2 ?side3 ?side4 A14.out).mono ?_); (case side1 => repeat (first | exact (Kd.R_reads' HO106.out).2.2 | (with_reducible refine Kd.C_alloc ?_ _) | (with_reducible refine Kd.C_drewN ?_ _) | (with_reducible refine Kd.C_drew ?_))); (case side2 => exact (Kd.R_reads' HO106.out).2.1); (case side3 => repeat (first | exact (Kd.R_reads' HO110.out).2.2 | (with_reducible refine Kd.C_alloc ?_ _) | (with_reducible refine Kd.C_drewN ?_ _) | (with_reducible refine Kd.C_drew ?_))); (case side4 => exact (Kd.R_reads' HO110.out).2.1); rintro e w' ⟨rfl, ⟨nd, rfl⟩⟩; refine ⟨_, rfl, ?_⟩) | (go_at_call 16; (with_reducible refine (diaphonelaw05_sane.calls k  t121 _ A43.out).mono ?_); rintro e w53 ⟨rfl, hb⟩; have n0_ := Aside0.mk (Kd.R_below (by (with_reducible repeat (first | apply Kd.R_alloc | apply Kd.R_drewN | apply Kd.R_drew)); exact HO106.out) hb); have n1_ := Aside0.mk (Kd.R_below (by (with_reducible repeat (first | apply Kd.R_alloc | apply Kd.R_drewN | apply Kd.R_drew)); exact HO110.out) hb); have n2_ := Aside0.mk (below_step (by repeat (first | (with_reducible first | exact HB.out | apply below_alloc | apply pw_below_drewN | apply below_drew1) | exact HB.out)) hb); clear HO106; clear HO110; clear HB; have HO106 := n0_; have HO110 := n1_; have HB := n2_; clear n0_ n1_ n2_; (try clear hb); (try clear hb2); (try clear hk); (try clear hi)))
                  go_ret
                  exact ⟨by first | rfl | (simp [errW_none, errW_some] <;> rfl) | (simp [*, errW_none, errW_some] <;> rfl), by repeat (first | (with_reducible first | exact HB.out | apply below_alloc | apply pw_below_drewN | apply below_drew1) | exact HB.out)⟩
              · rw [if_neg c20] at H
                have c20b0 : (t116 == t118) = false := beq_eq_false_iff_ne.mpr c20
                have c20b1 : (t116 != t118) = true := bne_iff_ne.mpr c20
                exact absurd (Option.some.inj H) (by rw [HRT.out]; decide)
            · rw [if_neg c19] at H
              have c19b0 : (t115 == t117) = false := by simpa using c19
              (try (have c19b1 : decide (t115 = t117) = false := by simpa using c19))
              (try (have c19b2 : (t115 == t117) = false := by simpa using c19))
              (try (have c19b3 : ¬ (t115 = t117) := by simpa using c19))
              clear c19
              exact absurd (Option.some.inj H) (by rw [HRT.out]; decide)
          · rw [if_neg c18] at H
            have c18b0 : (t112 == t114) = false := beq_eq_false_iff_ne.mpr c18
            have c18b1 : (t112 != t114) = true := bne_iff_ne.mpr c18
            exact absurd (Option.some.inj H) (by rw [HRT.out]; decide)
        · rw [if_neg c17] at H
          have c17b0 : (t111 == t113) = false := by simpa using c17
          (try (have c17b1 : decide (t111 = t113) = false := by simpa using c17))
          (try (have c17b2 : (t111 == t113) = false := by simpa using c17))
          (try (have c17b3 : ¬ (t111 = t113) := by simpa using c17))
          clear c17
          exact absurd (Option.some.inj H) (by rw [HRT.out]; decide)
      · rw [if_neg c16] at H
        have c16b0 : (t104 == t108) = false := beq_eq_false_iff_ne.mpr c16
        have c16b1 : (t104 != t108) = true := bne_iff_ne.mpr c16
        exact absurd (Option.some.inj H) (by rw [HRT.out]; decide)
    · replace c15 := Bool.eq_false_iff.mpr c15
      subst c15
      have H1 : (some false) = some r := by rw [if_neg (show ¬ (false = true) by decide)] at H; exact H
      clear H
      have H := H1
      clear H1
      exact absurd (Option.some.inj H) (by rw [HRT.out]; decide)

/-- THE ONE PURE STATEMENT of diaphonelaw05_EchoForms: yours. -/
def diaphonelaw05_EchoForms.Pure : Prop := ∀ (l0 : List Int) (l1 : List Int), l0.length ≤ maxLen → l0.length * 8 ≤ 140737488351232 → (∀ x ∈ l0, (Lit.int .i64 x).wf = true) → l1.length ≤ maxLen → l1.length * 8 ≤ 140737488351232 → (∀ x ∈ l1, (Lit.int .i64 x).wf = true) → ∃ k, diaphonelaw05_EchoForms.f k l0 l1 = some true
theorem diaphonelaw05_EchoForms.walk (P : diaphonelaw05_EchoForms.Pure) (a0 : Option Addr) (len0 cap0 : Nat) (z0 : List Int) (a1 : Option Addr) (len1 cap1 : Nat) (z1 : List Int) (w : World) (w0 : (a0 = none ∧ len0 = 0 ∧ cap0 = 0 ∧ z0 = []) ∨ ∃ x, a0 = some x ∧ len0 ≤ cap0 ∧ cap0 ≤ maxLen ∧ z0.length = cap0 ∧ (∀ i, i < z0.length → w.cell? (x.add i) = some (.int .i64 (z0.getD i 0))) ∧ ∀ n ∈ z0, (Lit.int .i64 n).wf = true) (y0 : len0 * 8 ≤ 140737488351232) (w1 : (a1 = none ∧ len1 = 0 ∧ cap1 = 0 ∧ z1 = []) ∨ ∃ x, a1 = some x ∧ len1 ≤ cap1 ∧ cap1 ≤ maxLen ∧ z1.length = cap1 ∧ (∀ i, i < z1.length → w.cell? (x.add i) = some (.int .i64 (z1.getD i 0))) ∧ ∀ n ∈ z1, (Lit.int .i64 n).wf = true) (y1 : len1 * 8 ≤ 140737488351232) :
    Calls Try.prog 7 #[.slice a0 len0 cap0, .slice a1 len1 cap1] w fun e w' => e = .returned (.bool true) ∧ Below w.heap.size w w' := by
  obtain ⟨l0, rfl, hr0, hm0, hw0, hc0⟩ := ReadsInt.ofRowC w0
  obtain ⟨l1, rfl, hr1, hm1, hw1, hc1⟩ := ReadsInt.ofRowC w1
  obtain ⟨k, h⟩ := P l0 l1 hm0 y0 hw0 hm1 y1 hw1
  refine (diaphonelaw05_EchoForms.calls k _ _ l0 _ _ l1 true rfl w (Kd.C_of_reads (d := (0 : Int)) (h1 := fun _ => rfl) hr0) hc0 (Kd.C_of_reads (d := (0 : Int)) (h1 := fun _ => rfl) hr1) hc1 h).mono ?_
  rintro e w' ⟨rfl, hd⟩
  exact ⟨rfl, hd⟩

end Go.Proofs.Ytlbhedhbakhhlaa.Q

/- Words for the plain laws: what a printed function has as its result from some number of rounds on. -/
namespace Go.Proofs.Ytlbhedhbakhhlaa.Q
open Go.RowKit Go.Proofs.YtlbhedhbakhhlaaW.PrintWords Go.Proofs.YtlbhedhbakhhlaaW.PrintLast Go.Proofs.YtlbhedhbakhhlaaW.PrintMore

theorem Ev.pure {α : Type} (r : α) : Ev (fun _ => some r) r := ⟨0, fun _ _ => rfl⟩
theorem Ev.of {α : Type} {f : Nat → Option α} {r : α} (K : Nat) (h : ∀ k, K ≤ k → f k = some r) : Ev f r := ⟨K, h⟩
theorem Ev.step {α : Type} {f g : Nat → Option α} {r : α} (hg : Ev g r) (h : ∀ k, f (k + 1) = g k) : Ev f r := by
  obtain ⟨K, hK⟩ := hg
  refine ⟨K + 1, fun k hk => ?_⟩
  obtain ⟨j, rfl⟩ : ∃ j, k = j + 1 := ⟨k - 1, by omega⟩
  rw [h]
  exact hK j (by omega)
theorem Ev.congr {α : Type} {f g : Nat → Option α} {r : α} (hg : Ev g r) (h : ∀ k, f k = g k) : Ev f r := by
  obtain ⟨K, hK⟩ := hg
  exact ⟨K, fun k hk => by rw [h]; exact hK k hk⟩
theorem Ev.bind {α β : Type} {f : Nat → Option α} {g : Nat → α → Option β} {a : α} {r : β} (hf : Ev f a) (hg : Ev (fun k => g k a) r) : Ev (fun k => (f k).bind fun x => g k x) r := by
  obtain ⟨K, hK⟩ := hf
  obtain ⟨L, hL⟩ := hg
  refine ⟨K + L, fun k hk => ?_⟩
  show (f k).bind (fun x => g k x) = some r
  rw [hK k (by omega), Option.bind_some]
  exact hL k (by omega)
theorem Ev.some_bind {α β : Type} {a : α} {g : Nat → α → Option β} {r : β} (hg : Ev (fun k => g k a) r) : Ev (fun k => (some a).bind fun x => g k x) r := Ev.bind (Ev.pure a) hg
theorem Ev.ex {α : Type} {f : Nat → Option α} {r : α} (h : Ev f r) : ∃ k, f k = some r := by
  obtain ⟨K, hK⟩ := h
  exact ⟨K, hK K (Nat.le_refl _)⟩
theorem Ev.ite {α : Type} {c : Prop} [Decidable c] {f g : Nat → Option α} {r : α} (h1 : c → Ev f r) (h2 : ¬ c → Ev g r) : Ev (fun k => if c then f k else g k) r := by
  by_cases h : c
  · simp only [if_pos h]; exact h1 h
  · simp only [if_neg h]; exact h2 h

/-- The wrapped numbers that occur. -/
theorem wrap_nat {n : Nat} (h : n ≤ 9223372036854775807) : wrap64 (n : Int) = n := wrap_of (by omega) (by omega)
theorem wrap_succ {n : Nat} (h : n < 9223372036854775807) : wrap64 ((n : Int) + 1) = ((n + 1 : Nat) : Int) := by rw [wrap_of (by omega) (by omega)]; omega
theorem wrap_pred {n : Nat} (h : n ≤ 9223372036854775807) (h0 : 0 < n) : wrap64 ((n : Int) - 1) = ((n - 1 : Nat) : Int) := by rw [wrap_of (by omega) (by omega)]; omega
end Go.Proofs.Ytlbhedhbakhhlaa.Q

/- What Validate says, by the code and by the document: the same. -/
namespace Go.Proofs.Ytlbhedhbakhhlaa.Q
open Go.RowKit Go.Proofs.YtlbhedhbakhhlaaW.PrintWords Go.Proofs.YtlbhedhbakhhlaaW.PrintLast Go.Proofs.YtlbhedhbakhhlaaW.PrintMore

def at_ (l : List Int) (i : Nat) : Int := l.getD i 0
theorem rd_at (l : List Int) (i : Nat) : rd l (i : Int) = at_ l i := rfl
theorem rd_zero (l : List Int) : rd l 0 = at_ l 0 := rfl
theorem at_lt (l : List Int) (i : Nat) (h : i < l.length) : at_ l i = l[i] := by
  unfold at_
  rw [List.getD_eq_getElem?_getD, List.getElem?_eq_getElem h]
  rfl
/-- A place that is out of reach, or not behind the one before. -/
def badAt (l : List Int) (i : Nat) : Prop := (at_ l i < -60 ∨ 60 < at_ l i) ∨ (0 < i ∧ at_ l i ≤ at_ l (i - 1))
instance (l : List Int) (i : Nat) : Decidable (badAt l i) := inferInstanceAs (Decidable (_ ∨ _))
/-- Right places so far. -/
def goodTo (l : List Int) (n : Nat) : Prop := ∀ i, i < n → ¬ badAt l i
/-- Right cliffs. -/
structure V (l : List Int) : Prop where
  pos : 0 < l.length
  six : l.length ≤ 6
  good : goodTo l l.length
  span : at_ l (l.length - 1) - at_ l 0 ≤ 60
theorem V.range {l : List Int} (h : V l) {i : Nat} (hi : i < l.length) : -60 ≤ at_ l i ∧ at_ l i ≤ 60 := by
  have := h.good i hi
  unfold badAt at this
  omega
theorem V.lt {l : List Int} (h : V l) : ∀ {i j : Nat}, i < j → j < l.length → at_ l i < at_ l j := by
  intro i j hij
  induction j with
  | zero => omega
  | succ j ih =>
    intro hj
    have h1 := h.good (j + 1) hj
    unfold badAt at h1
    rw [Nat.add_sub_cancel] at h1
    by_cases e : i = j
    · subst e; omega
    · have := ih (by omega) (by omega)
      omega
instance (l : List Int) (n : Nat) : Decidable (goodTo l n) := inferInstanceAs (Decidable (∀ i, i < n → ¬ badAt l i))
instance (l : List Int) : Decidable (V l) := decidable_of_iff (0 < l.length ∧ l.length ≤ 6 ∧ goodTo l l.length ∧ at_ l (l.length - 1) - at_ l 0 ≤ 60)
  ⟨fun h => ⟨h.1, h.2.1, h.2.2.1, h.2.2.2⟩, fun h => ⟨h.pos, h.six, h.good, h.span⟩⟩
/-- The error. -/
def vErr (l : List Int) : Int := if l.length = 0 ∨ 6 < l.length then 3 else if V l then 0 else 1

theorem within_echo (a b c : Int) : echo_within.f a b c = some (decide (b ≤ a ∧ a ≤ c)) := by
  unfold echo_within.f
  by_cases h : a ≥ b
  · rw [if_pos h]; simp [h]
  · rw [if_neg h]; simp; omega
theorem within_ref (a b c : Int) : diaphoneref05_within.f a b c = some (decide (b ≤ a ∧ a ≤ c)) := by
  unfold diaphoneref05_within.f
  by_cases h : a ≥ b
  · rw [if_pos h]; simp [h]
  · rw [if_neg h]; simp; omega

/-- What comes behind the loop. -/
theorem v_end (l : List Int) (h0 : 0 < l.length) (h6 : l.length ≤ 6) (hg : goodTo l l.length) :
    (if wrap64 (rd l (wrap64 ((l.length : Int) - 1)) - rd l 0) > 60 then some 1 else some 0 : Option Int) = some (vErr l) := by
  have h1 : ¬ badAt l 0 := hg 0 h0
  have h2 : ¬ badAt l (l.length - 1) := hg _ (by omega)
  unfold badAt at h1 h2
  rw [wrap_pred (by omega) h0, rd_at, rd_zero, wrap_of (by omega) (by omega)]
  by_cases hs : at_ l (l.length - 1) - at_ l 0 > 60
  · have hv : vErr l = 1 := by unfold vErr; rw [if_neg (by omega), if_neg (fun hv => by have := hv.span; omega)]
    rw [if_pos hs, hv]
  · have hv : vErr l = 0 := by unfold vErr; rw [if_neg (by omega), if_pos ⟨h0, h6, hg, by omega⟩]
    rw [if_neg hs, hv]
theorem v_bad (l : List Int) (h0 : 0 < l.length) (h6 : l.length ≤ 6) (i : Nat) (hi : i < l.length) (hb : badAt l i) : vErr l = 1 := by
  unfold vErr
  rw [if_neg (by omega), if_neg (fun hv => hv.good i hi hb)]

theorem validate_l0 (l : List Int) (h0 : 0 < l.length) (h6 : l.length ≤ 6) : ∀ m i, l.length - i = m → i ≤ l.length → goodTo l i → Ev (fun k => echo_Validate.l0 k l l (l.length : Int) (i : Int)) (vErr l) := by
  intro m
  induction m with
  | zero =>
    intro i hm hi hg
    have : i = l.length := by omega
    subst this
    refine Ev.step (Ev.pure (vErr l)) fun k => ?_
    rw [echo_Validate.l0, if_neg (by omega), if_pos (by rw [wrap_pred (by omega) h0]; omega), if_pos (by rw [wrap_pred (by omega) h0]; omega), if_pos (by omega)]
    exact v_end l h0 h6 hg
  | succ m ih =>
    intro i hm hi hg
    have hlt : i < l.length := by omega
    by_cases hb : badAt l i
    · refine Ev.step (Ev.pure (vErr l)) fun k => ?_
      rw [echo_Validate.l0, if_pos (by omega), if_pos (by omega), if_pos (by omega), within_echo, Option.bind_some, v_bad l h0 h6 i hlt hb, rd_at]
      by_cases hr : -60 ≤ at_ l i ∧ at_ l i ≤ 60
      · have hb2 : 0 < i ∧ at_ l i ≤ at_ l (i - 1) := by unfold badAt at hb; omega
        rw [if_pos (by simpa using hr), if_pos (by omega), wrap_pred (by omega) hb2.1, if_pos (by omega), if_pos (by omega), rd_at, if_pos hb2.2]
      · rw [if_neg (by simpa using hr)]
    · have hb' := hb
      unfold badAt at hb'
      refine Ev.step (ih (i + 1) (by omega) (by omega) (fun j hj => by
        by_cases e : j = i
        · subst e; exact hb
        · exact hg j (by omega))) fun k => ?_
      rw [echo_Validate.l0, if_pos (by omega), if_pos (by omega), if_pos (by omega), within_echo, Option.bind_some, rd_at, if_pos (by simp; omega), wrap_succ (by omega)]
      by_cases hi0 : 0 < i
      · rw [if_pos (by omega), wrap_pred (by omega) hi0, if_pos (by omega), if_pos (by omega), rd_at, if_neg (by omega)]
      · rw [if_neg (by omega)]
theorem validate_ev (l : List Int) : Ev (fun k => echo_Validate.f k l) (vErr l) := by
  unfold echo_Validate.f
  rw [within_echo]
  refine Ev.some_bind ?_
  by_cases h : 1 ≤ l.length ∧ l.length ≤ 6
  · simp only [if_pos (show decide ((1 : Int) ≤ (l.length : Int) ∧ (l.length : Int) ≤ 6) = true by simp; omega)]
    exact validate_l0 l (by omega) h.2 l.length 0 (by omega) (by omega) (fun _ hj => by omega)
  · simp only [if_neg (show ¬ decide ((1 : Int) ≤ (l.length : Int) ∧ (l.length : Int) ≤ 6) = true by simp; omega)]
    have : vErr l = 3 := by unfold vErr; rw [if_pos (by omega)]
    rw [this]
    exact Ev.pure _

theorem rvalidate_l0 (l : List Int) (h0 : 0 < l.length) (h6 : l.length ≤ 6) : ∀ m i, l.length - i = m → i ≤ l.length → goodTo l i → Ev (fun k => diaphoneref05_Validate.l0 k l (i : Int)) (vErr l) := by
  intro m
  induction m with
  | zero =>
    intro i hm hi hg
    have : i = l.length := by omega
    subst this
    refine Ev.step (Ev.pure (vErr l)) fun k => ?_
    rw [diaphoneref05_Validate.l0, if_neg (by omega), if_pos (by rw [wrap_pred (by omega) h0]; omega), if_pos (by rw [wrap_pred (by omega) h0]; omega), if_pos (by omega)]
    exact v_end l h0 h6 hg
  | succ m ih =>
    intro i hm hi hg
    have hlt : i < l.length := by omega
    by_cases hb : badAt l i
    · refine Ev.step (Ev.pure (vErr l)) fun k => ?_
      rw [diaphoneref05_Validate.l0, if_pos (by omega), if_pos (by omega), within_ref, Option.bind_some, v_bad l h0 h6 i hlt hb, rd_at]
      by_cases hr : -60 ≤ at_ l i ∧ at_ l i ≤ 60
      · have hb2 : 0 < i ∧ at_ l i ≤ at_ l (i - 1) := by unfold badAt at hb; omega
        rw [if_pos (by simpa using hr), if_pos (by omega), wrap_pred (by omega) hb2.1, if_pos (by omega), if_pos (by omega), rd_at, if_pos (by omega)]
      · rw [if_neg (by simpa using hr)]
    · have hb' := hb
      unfold badAt at hb'
      refine Ev.step (ih (i + 1) (by omega) (by omega) (fun j hj => by
        by_cases e : j = i
        · subst e; exact hb
        · exact hg j (by omega))) fun k => ?_
      rw [diaphoneref05_Validate.l0, if_pos (by omega), if_pos (by omega), within_ref, Option.bind_some, rd_at, if_pos (by simp; omega), wrap_succ (by omega)]
      by_cases hi0 : 0 < i
      · rw [if_pos (by omega), wrap_pred (by omega) hi0, if_pos (by omega), if_pos (by omega), rd_at, if_neg (by omega)]
      · rw [if_neg (by omega)]
theorem rvalidate_ev (l : List Int) : Ev (fun k => diaphoneref05_Validate.f k l) (vErr l) := by
  unfold diaphoneref05_Validate.f
  rw [within_ref]
  refine Ev.some_bind ?_
  by_cases h : 1 ≤ l.length ∧ l.length ≤ 6
  · simp only [if_pos (show decide ((1 : Int) ≤ (l.length : Int) ∧ (l.length : Int) ≤ 6) = true by simp; omega)]
    exact rvalidate_l0 l (by omega) h.2 l.length 0 (by omega) (by omega) (fun _ hj => by omega)
  · simp only [if_neg (show ¬ decide ((1 : Int) ≤ (l.length : Int) ∧ (l.length : Int) ≤ 6) = true by simp; omega)]
    have : vErr l = 3 := by unfold vErr; rw [if_pos (by omega)]
    rw [this]
    exact Ev.pure _
theorem vErr_zero {l : List Int} (h : vErr l = 0) : V l := by
  unfold vErr at h
  split at h
  · cases h
  · split at h
    · assumption
    · cases h
theorem vErr_of {l : List Int} (h : V l) : vErr l = 0 := by
  unfold vErr
  rw [if_neg (by have := h.pos; have := h.six; omega), if_pos h]
end Go.Proofs.Ytlbhedhbakhhlaa.Q

/- The document's sort by swaps, and when two rows are the same. -/
namespace Go.Proofs.Ytlbhedhbakhhlaa.Q
open Go.RowKit Go.Proofs.YtlbhedhbakhhlaaW.PrintWords Go.Proofs.YtlbhedhbakhhlaaW.PrintLast Go.Proofs.YtlbhedhbakhhlaaW.PrintMore

theorem same_l0 (x y : List Int) (hx : x.length < 9223372036854775807) (hl : x.length = y.length) :
    ∀ m i, x.length - i = m → i ≤ x.length → Ev (fun k => diaphoneref05_SameInts.l0 k x y (i : Int)) (decide (x.drop i = y.drop i)) := by
  intro m
  induction m with
  | zero =>
    intro i hm hi
    rw [List.drop_of_length_le (by omega : x.length ≤ i), List.drop_of_length_le (by omega : y.length ≤ i)]
    refine Ev.step (Ev.pure _) fun k => ?_
    rw [diaphoneref05_SameInts.l0, if_neg (by omega)]
    rfl
  | succ m ih =>
    intro i hm hi
    have hix : i < x.length := by omega
    have hiy : i < y.length := by omega
    rw [List.drop_eq_getElem_cons hix, List.drop_eq_getElem_cons hiy]
    by_cases he : x[i] = y[i]
    · have e : decide (x[i] :: x.drop (i + 1) = y[i] :: y.drop (i + 1)) = decide (x.drop (i + 1) = y.drop (i + 1)) := by simp only [he, List.cons.injEq, true_and]
      rw [e]
      refine Ev.step (ih (i + 1) (by omega) (by omega)) fun k => ?_
      rw [diaphoneref05_SameInts.l0, if_pos (by omega), if_pos (by omega), if_pos (by omega), rd_lt x i hix, rd_lt y i hiy, if_pos he, wrap_succ (by omega)]
    · have e : decide (x[i] :: x.drop (i + 1) = y[i] :: y.drop (i + 1)) = false := by simp only [List.cons.injEq, he, false_and, decide_false]
      rw [e]
      refine Ev.step (Ev.pure _) fun k => ?_
      rw [diaphoneref05_SameInts.l0, if_pos (by omega), if_pos (by omega), if_pos (by omega), rd_lt x i hix, rd_lt y i hiy, if_neg he]
theorem same_ev (x y : List Int) (hx : x.length < 9223372036854775807) : Ev (fun k => diaphoneref05_SameInts.f k x y) (decide (x = y)) := by
  unfold diaphoneref05_SameInts.f
  by_cases hl : x.length = y.length
  · simp only [if_pos (show (x.length : Int) = (y.length : Int) by omega)]
    have := same_l0 x y hx hl x.length 0 (by omega) (by omega)
    simpa using this
  · simp only [if_neg (show ¬ (x.length : Int) = (y.length : Int) by omega)]
    have : x ≠ y := fun h => hl (by rw [h])
    simp only [this, decide_false]
    exact Ev.pure _

def at' (l : List Int) (i : Nat) : Int := l.getD i 0
theorem at'_lt {l : List Int} {i : Nat} (h : i < l.length) : at' l i = l[i] := by
  unfold at'
  rw [List.getD_eq_getElem?_getD, List.getElem?_eq_getElem h]
  rfl
theorem at'_set {l : List Int} {i j : Nat} {x : Int} (h : i < l.length) : at' (l.set i x) j = if j = i then x else at' l j := by
  unfold at'
  rw [List.getD_eq_getElem?_getD, List.getD_eq_getElem?_getD, List.getElem?_set]
  by_cases e : i = j
  · subst e; simp [h]
  · rw [if_neg e, if_neg (Ne.symm e)]

/-- Places a < b up to i are in order, where b is not j. -/
def Near (x : List Int) (i j : Nat) : Prop := ∀ a b, a < b → b ≤ i → b ≠ j → at' x a ≤ at' x b
theorem sorted_end {x l : List Int} (hp : x.Perm l) (hs : ∀ a b, a < b → b < x.length → at' x a ≤ at' x b) : x = isortI l := by
  refine List.Perm.eq_of_pairwise (le := fun a b => leI a b = true) (fun a b _ _ => leI_anti a b) ?_ (sortBy_sorted leI_trans leI_total l) (hp.trans (sortBy_perm leI l).symm)
  rw [List.pairwise_iff_getElem]
  intro a b ha hb hab
  have := hs a b hab hb
  rw [at'_lt ha, at'_lt hb] at this
  simpa [leI] using this
def swapD (x : List Int) (j : Nat) : List Int := (x.set j (at' x (j - 1))).set (j - 1) (at' x j)
theorem swapD_perm {x : List Int} {j : Nat} (h0 : 0 < j) (h : j < x.length) : (swapD x j).Perm x := by
  unfold swapD
  rw [at'_lt h, at'_lt (by omega : j - 1 < x.length)]
  exact List.set_set_perm h (by omega)
theorem swapD_at {x : List Int} {j : Nat} (h0 : 0 < j) (h : j < x.length) (a : Nat) : at' (swapD x j) a = if a = j - 1 then at' x j else if a = j then at' x (j - 1) else at' x a := by
  unfold swapD
  rw [at'_set (by simp; omega), at'_set h]

theorem sorted_l (l : List Int) (hl : l.length < 9223372036854775807) :
    ∀ m i (x : List Int), l.length - i = m → i ≤ l.length → x.Perm l → (∀ a b, a < b → b < i → at' x a ≤ at' x b) → Ev (fun k => diaphoneref05_sorted.l0 k x (i : Int)) (isortI l) := by
  intro m
  induction m with
  | zero =>
    intro i x hm hi hp hs
    have hx : x.length = l.length := hp.length_eq
    have hi' : i = l.length := by omega
    subst hi'
    rw [← sorted_end hp (fun a b hab hb => hs a b hab (by omega))]
    refine Ev.step (Ev.pure x) fun k => ?_
    rw [diaphoneref05_sorted.l0, if_neg (by omega)]
  | succ m ih =>
    intro i x hm hi hp hs
    have hx : x.length = l.length := hp.length_eq
    have key : ∀ j (x : List Int), j ≤ i → x.Perm l → Near x i j → Ev (fun k => diaphoneref05_sorted.l1 k x (i : Int) (j : Int)) (isortI l) := by
      intro j
      induction j with
      | zero =>
        intro x hj hp hn
        refine Ev.step (ih (i + 1) x (by omega) (by omega) hp (fun a b hab hb => hn a b hab (by omega) (by omega))) fun k => ?_
        rw [diaphoneref05_sorted.l1, if_neg (by omega), wrap_succ (by omega)]
      | succ j ihj =>
        intro x hj hp hn
        have hx : x.length = l.length := hp.length_eq
        by_cases hgt : at' x j > at' x (j + 1)
        · refine Ev.step (ihj (swapD x (j + 1)) (by omega) ((swapD_perm (by omega) (by omega)).trans hp) ?_) fun k => ?_
          · intro a b hab hb hne
            rw [swapD_at (by omega) (by omega), swapD_at (by omega) (by omega), Nat.add_sub_cancel, if_neg hne]
            have ha1 := hn a b hab hb
            have ha2 := hn a j
            have ha3 := hn j b
            have ha4 := hn (j + 1) b
            by_cases e1 : b = j + 1
            · subst e1
              rw [if_pos rfl]
              by_cases e2 : a = j
              · subst e2; rw [if_pos rfl]; omega
              · rw [if_neg e2, if_neg (by omega)]
                exact ha2 (by omega) (by omega) (by omega)
            · rw [if_neg e1]
              by_cases e2 : a = j
              · subst e2; rw [if_pos rfl]; exact ha4 (by omega) hb e1
              · rw [if_neg e2]
                by_cases e3 : a = j + 1
                · subst e3; rw [if_pos rfl]; exact ha3 (by omega) hb e1
                · rw [if_neg e3]; exact ha1 e1
          · rw [diaphoneref05_sorted.l1, if_pos (by omega), wrap_pred (by omega) (by omega), if_pos (by omega), if_pos (by omega), if_pos (by omega), if_pos (by omega)]
            rw [if_pos (show rd x ((j + 1 - 1 : Nat) : Int) > rd x ((j + 1 : Nat) : Int) from hgt)]
            rfl
        · refine Ev.step (ih (i + 1) x (by omega) (by omega) hp (fun a b hab hb => ?_)) fun k => ?_
          · by_cases e : b = j + 1
            · subst e
              by_cases e2 : a = j
              · subst e2; omega
              · have := hn a j (by omega) (by omega) (by omega)
                omega
            · exact hn a b hab (by omega) e
          · rw [diaphoneref05_sorted.l1, if_pos (by omega), wrap_pred (by omega) (by omega), if_pos (by omega), if_pos (by omega), if_pos (by omega), if_pos (by omega)]
            rw [if_neg (show ¬ rd x ((j + 1 - 1 : Nat) : Int) > rd x ((j + 1 : Nat) : Int) from hgt), wrap_succ (by omega)]
    refine Ev.step (key i x (Nat.le_refl _) hp (fun a b hab hb hne => hs a b hab (by omega))) fun k => ?_
    rw [diaphoneref05_sorted.l0, if_pos (by omega)]
theorem sorted_ev (l : List Int) (hl : l.length < 17592186044416) : Ev (fun k => diaphoneref05_sorted.f k l) (isortI l) := by
  unfold diaphoneref05_sorted.f
  refine Ev.some_bind ?_
  simp only [List.length_nil, Nat.zero_add, if_pos hl, List.nil_append]
  exact sorted_l l (by omega) l.length 0 l (by omega) (by omega) (.refl _) (fun a b _ hb => by omega)
end Go.Proofs.Ytlbhedhbakhhlaa.Q

namespace Go.Proofs.Ytlbhedhbakhhlaa.Q
open Go.RowKit Go.Proofs.YtlbhedhbakhhlaaW.PrintWords Go.Proofs.YtlbhedhbakhhlaaW.PrintLast Go.Proofs.YtlbhedhbakhhlaaW.PrintMore
attribute [local go_sem] max2_int min2_int max_two min_two max_three min_three max_four min_four   -- for this text's walks alone
set_option linter.unusedVariables false
set_option linter.unusedSimpArgs false

/-! ### diaphoneref05_ruler: function 55 -/
def diaphoneref05_ruler.l0 : Nat → List Int → Int → Option (Bool)
  | 0, _, _ => none
  | k + 1, x3, x4 => if x4 < (x3.length : Int) then (if 0 ≤ x4 then (if 0 ≤ (wrap64 (x4 - 1)) then (if (wrap64 (x4 - 1)) < (x3.length : Int) then (if (rd x3 x4) = (rd x3 (wrap64 (x4 - 1))) then (some false) else (diaphoneref05_ruler.l0 k x3 (wrap64 (x4 + 1)))) else (none)) else (none)) else (none)) else (some true)
def diaphoneref05_ruler.f (k : Nat) (l0 : List Int) : Option (Bool) := (diaphoneref05_delays.f k l0).bind fun t101 => (diaphoneref05_ruler.l0 k t101 1)
theorem diaphoneref05_ruler.mono_l : ∀ k, (∀ y0 y1, LeO (diaphoneref05_ruler.l0 k y0 y1) (diaphoneref05_ruler.l0 (k + 1) y0 y1))
  | 0 => fun _ _ r h => by simp [diaphoneref05_ruler.l0] at h
  | k + 1 => by
    have ih0 := diaphoneref05_ruler.mono_l k
    · intro y0 y1
      unfold diaphoneref05_ruler.l0
      repeat' first
      | (with_reducible exact ih0 _ _)
      | (with_reducible exact diaphoneref05_delays.mono _ _)
      | (with_reducible exact LeO.refl _)
      | (with_reducible exact LeO.none _)
      | (with_reducible refine LeO.ite ?_ ?_)
      | (with_reducible refine LeO.bind ?_ (fun _ => ?_))
      | exact ih0 _ _
      | exact diaphoneref05_delays.mono _ _
      | exact LeO.none _
      | refine LeO.ite ?_ ?_
      | refine LeO.bind ?_ (fun _ => ?_)
theorem diaphoneref05_ruler.mono : ∀ a0 k, LeO (diaphoneref05_ruler.f k a0) (diaphoneref05_ruler.f (k + 1) a0) := by
  intro a0 k
  have ih0 := diaphoneref05_ruler.mono_l k
  unfold diaphoneref05_ruler.f
  repeat' first
      | (with_reducible exact ih0 _ _)
      | (with_reducible exact diaphoneref05_delays.mono _ _)
      | (with_reducible exact LeO.refl _)
      | (with_reducible exact LeO.none _)
      | (with_reducible refine LeO.ite ?_ ?_)
      | (with_reducible refine LeO.bind ?_ (fun _ => ?_))
      | exact ih0 _ _
      | exact diaphoneref05_delays.mono _ _
      | exact LeO.none _
      | refine LeO.ite ?_ ?_
      | refine LeO.bind ?_ (fun _ => ?_)
set_option maxHeartbeats 8000000 in
set_option maxRecDepth 100000 in
theorem diaphoneref05_ruler.calls (k : Nat) (A0 : Option Addr) (c0 : Nat) (l0 : List Int) (r : Bool) (w : World) (hr0 : Kd.C (Kd.int .i64) w A0 l0.length l0) (hc0 : l0.length ≤ c0) (h : diaphoneref05_ruler.f k l0 = some r) :
    Calls Try.prog 55 #[.slice A0 l0.length c0] w fun e w' => e = .returned (.bool r) ∧ Below w.heap.size w w' := by
  have HR0 := Aside0.mk hr0
  have HC0 := Aside0.mk hc0
  clear hr0 hc0
  have HB := Aside0.mk (Below.refl w.heap.size w)
  have H : ((diaphoneref05_delays.f k l0).bind fun t101 => (diaphoneref05_ruler.l0 k t101 1)) = some r := h
  clear h
  replace H := Option.bind_eq_some_iff.mp H
  obtain ⟨t101, A20, H⟩ := H
  replace H : (diaphoneref05_ruler.l0 k t101 1) = some r := H
  have A2 := Aside0.mk A20
  clear A20
  have H' := Aside0.mk H
  clear H
  go_enter Try.func55, Try.ntmps55
  go_wp2_with (first | (go_at_call 53; (with_reducible refine (diaphoneref05_delays.calls k _ _ l0 t101 _ ?side1 ?side2 A2.out).mono ?_); (case side1 => repeat (first | exact HR0.out | (with_reducible refine Kd.C_alloc ?_ _) | (with_reducible refine Kd.C_drewN ?_ _) | (with_reducible refine Kd.C_drew ?_))); (case side2 => exact HC0.out); rintro e w3 ⟨v102, rfl, ho0, hb⟩; have n0_ := Aside0.mk (Kd.R_lower ho0 (below_size (by repeat (first | (with_reducible first | exact HB.out | apply below_alloc | apply pw_below_drewN | apply below_drew1) | exact HB.out)))); have n1_ := Aside0.mk (below_step (by repeat (first | (with_reducible first | exact HB.out | apply below_alloc | apply pw_below_drewN | apply below_drew1) | exact HB.out)) hb); clear HB; have HO103 := n0_; have HB := n1_; clear n0_ n1_; (try clear hb); (try clear hb2); (try clear hk); (try clear hi); (try clear ho0)))
  repeat (go_quiet (first | (go_at_call 53; (with_reducible refine (diaphoneref05_delays.calls k _ _ l0 t101 _ ?side1 ?side2 A2.out).mono ?_); (case side1 => repeat (first | exact HR0.out | (with_reducible refine Kd.C_alloc ?_ _) | (with_reducible refine Kd.C_drewN ?_ _) | (with_reducible refine Kd.C_drew ?_))); (case side2 => exact HC0.out); rintro e w3 ⟨v102, rfl, ho0, hb⟩; have n0_ := Aside0.mk (Kd.R_lower ho0 (below_size (by repeat (first | (with_reducible first | exact HB.out | apply below_alloc | apply pw_below_drewN | apply below_drew1) | exact HB.out)))); have n1_ := Aside0.mk (below_step (by repeat (first | (with_reducible first | exact HB.out | apply below_alloc | apply pw_below_drewN | apply below_drew1) | exact HB.out)) hb); clear HB; have HO103 := n0_; have HB := n1_; clear n0_ n1_; (try clear hb); (try clear hb2); (try clear hk); (try clear hi); (try clear ho0))); try go_wp2_with (first | (go_at_call 53; (with_reducible refine (diaphoneref05_delays.calls k _ _ l0 t101 _ ?side1 ?side2 A2.out).mono ?_); (case side1 => repeat (first | exact HR0.out | (with_reducible refine Kd.C_alloc ?_ _) | (with_reducible refine Kd.C_drewN ?_ _) | (with_reducible refine Kd.C_drew ?_))); (case side2 => exact HC0.out); rintro e w3 ⟨v102, rfl, ho0, hb⟩; have n0_ := Aside0.mk (Kd.R_lower ho0 (below_size (by repeat (first | (with_reducible first | exact HB.out | apply below_alloc | apply pw_below_drewN | apply below_drew1) | exact HB.out)))); have n1_ := Aside0.mk (below_step (by repeat (first | (with_reducible first | exact HB.out | apply below_alloc | apply pw_below_drewN | apply below_drew1) | exact HB.out)) hb); clear HB; have HO103 := n0_; have HB := n1_; clear n0_ n1_; (try clear hb); (try clear hb2); (try clear hk); (try clear hi); (try clear ho0))))
  go_loopg [4] k (fun kq v4 w' => ∃ (x4_1 : Int), v4 = .int .i64 x4_1 ∧ Aside0 (diaphoneref05_ruler.l0 kq t101 x4_1 = some r) ∧ Aside0 (kq ≤ k) ∧ Aside0 (Kd.R (Kd.int .i64) 3 w' w.heap.size (fun _ => True) v102 t101) ∧ Aside0 (Below w.heap.size w w'))
  case atStart => exact ⟨(1), (by first | rfl | (simp; done) | (simp [*]; done)), H', ⟨Nat.le_refl _⟩, ⟨by (with_reducible repeat (first | apply Kd.R_alloc | apply Kd.R_drewN | apply Kd.R_drew)); exact HO103.out⟩, ⟨by repeat (first | (with_reducible first | exact HB.out | apply below_alloc | apply pw_below_drewN | apply below_drew1) | exact HB.out)⟩⟩
  case round =>
    clear H'
    try clear p2
    obtain ⟨x4_1, rfl, HA, HK1, HO_3, HB⟩ := hrel
    cases gk with
    | zero => exact absurd HA.out (by simp [diaphoneref05_ruler.l0])
    | succ k1 =>
      have H := HA.out
      clear HA
      simp only [diaphoneref05_ruler.l0] at H
      by_cases c4 : x4_1 < (t101.length : Int)
      · rw [if_pos c4] at H
        have c4b0 : decide (x4_1 < (t101.length : Int)) = true := decide_eq_true c4
        clear c4
        by_cases c5 : 0 ≤ x4_1
        · rw [if_pos c5] at H
          have c5b0 : decide (0 ≤ x4_1) = true := decide_eq_true c5
          clear c5
          obtain ⟨ji6, hji6⟩ : ∃ j_ : Int, (wrap64 (x4_1 - 1)) = j_ := ⟨_, rfl⟩
          replace H : (if 0 ≤ (ji6) then (if (ji6) < (t101.length : Int) then (if (rd t101 x4_1) = (rd t101 (ji6)) then (some false) else (diaphoneref05_ruler.l0 k1 t101 (wrap64 (x4_1 + 1)))) else (none)) else (none)) = some r := by first | (rw [hji6] at H; exact H) | (simp only [hji6] at H ⊢; exact H)
          have hji6w : (IntKind.i64.wrap (x4_1 - 1)) = ji6 := (i64_w _).trans hji6
          by_cases c7 : 0 ≤ (ji6)
          · rw [if_pos c7] at H
            have c7b0 : decide (0 ≤ (ji6)) = true := decide_eq_true c7
            clear c7
            by_cases c8 : (ji6) < (t101.length : Int)
            · rw [if_pos c8] at H
              have c8b0 : decide ((ji6) < (t101.length : Int)) = true := decide_eq_true c8
              clear c8
              by_cases c9 : (rd t101 x4_1) = (rd t101 (ji6))
              · rw [if_pos c9] at H
                have c9b0 : ((rd t101 x4_1) == (rd t101 (ji6))) = true := beq_iff_eq.mpr c9
                have c9b1 : ((rd t101 x4_1) != (rd t101 (ji6))) = false := bne_eq_false_iff_eq.mpr c9
                clear c9
                obtain rfl := Option.some.inj H
                obtain ⟨Ao10, co10, eo10⟩ := Kd.R_slice HO_3.out
                subst eo10
                have p104 : 0 ≤ (x4_1 : Int) := of_decide_eq_true (by first | (with_reducible assumption) | assumption)
                have q104 : x4_1 < (t101.length : Int) := of_decide_eq_true (by first | (with_reducible assumption) | assumption)
                obtain ⟨ad104, e104, hx104_0⟩ := Kd.at_int (Kd.R_reads' HO_3.out).2.2 x4_1 p104 q104
                cases e104
                replace p104 := eq_true p104
                replace q104 := eq_true q104
                have p105 : 0 ≤ ((ji6) : Int) := of_decide_eq_true (by first | (with_reducible assumption) | assumption)
                have q105 : (ji6) < (t101.length : Int) := of_decide_eq_true (by first | (with_reducible assumption) | assumption)
                obtain ⟨ad105, e105, hx105_0⟩ := Kd.at_int (Kd.R_reads' HO_3.out).2.2 (ji6) p105 q105
                obtain rfl : ad104 = ad105 := (by injection e105)
                replace p105 := eq_true p105
                replace q105 := eq_true q105
                go_wp2
                repeat (go_quiet (fail); try go_wp2)
                go_ret
                exact ⟨by first | rfl | (simp [errW_none, errW_some] <;> rfl) | (simp only [← hji6]; first | rfl | (simp [errW_none, errW_some] <;> rfl)) | (simp [*, errW_none, errW_some] <;> rfl), by repeat (first | (with_reducible first | exact HB.out | apply below_alloc | apply pw_below_drewN | apply below_drew1) | exact HB.out)⟩
              · rw [if_neg c9] at H
                have c9b0 : ((rd t101 x4_1) == (rd t101 (ji6))) = false := beq_eq_false_iff_ne.mpr c9
                have c9b1 : ((rd t101 x4_1) != (rd t101 (ji6))) = true := bne_iff_ne.mpr c9
                have H' := Aside0.mk H
                clear H
                obtain ⟨Ao11, co11, eo11⟩ := Kd.R_slice HO_3.out
                subst eo11
                have p104 : 0 ≤ (x4_1 : Int) := of_decide_eq_true (by first | (with_reducible assumption) | assumption)
                have q104 : x4_1 < (t101.length : Int) := of_decide_eq_true (by first | (with_reducible assumption) | assumption)
                obtain ⟨ad104, e104, hx104_0⟩ := Kd.at_int (Kd.R_reads' HO_3.out).2.2 x4_1 p104 q104
                cases e104
                replace p104 := eq_true p104
                replace q104 := eq_true q104
                have p105 : 0 ≤ ((ji6) : Int) := of_decide_eq_true (by first | (with_reducible assumption) | assumption)
                have q105 : (ji6) < (t101.length : Int) := of_decide_eq_true (by first | (with_reducible assumption) | assumption)
                obtain ⟨ad105, e105, hx105_0⟩ := Kd.at_int (Kd.R_reads' HO_3.out).2.2 (ji6) p105 q105
                obtain rfl : ad104 = ad105 := (by injection e105)
                replace p105 := eq_true p105
                replace q105 := eq_true q105
                go_wp2
                repeat (go_quiet (fail); try go_wp2)
                go_roundg k1
                case measure => have := HK1.out; omega
                case rel => exact ⟨(wrap64 (x4_1 + 1)), (by first | rfl | (simp; done) | (simp [*]; done)), H', ⟨by have := HK1.out; omega⟩, ⟨by (with_reducible repeat (first | apply Kd.R_alloc | apply Kd.R_drewN | apply Kd.R_drew)); exact HO_3.out⟩, ⟨by repeat (first | (with_reducible first | exact HB.out | apply below_alloc | apply pw_below_drewN | apply below_drew1) | exact HB.out)⟩⟩
            · rw [if_neg c8] at H
              exact absurd H (by simp)
          · rw [if_neg c7] at H
            exact absurd H (by simp)
        · rw [if_neg c5] at H
          exact absurd H (by simp)
      · rw [if_neg c4] at H
        have c4b0 : decide (x4_1 < (t101.length : Int)) = false := decide_eq_false c4
        clear c4
        obtain rfl := Option.some.inj H
        obtain ⟨Ao12, co12, eo12⟩ := Kd.R_slice HO_3.out
        subst eo12
        go_wp2
        repeat (go_quiet (fail); try go_wp2)
        go_ret
        exact ⟨by first | rfl | (simp [errW_none, errW_some] <;> rfl) | (simp [*, errW_none, errW_some] <;> rfl), by repeat (first | (with_reducible first | exact HB.out | apply below_alloc | apply pw_below_drewN | apply below_drew1) | exact HB.out)⟩

end Go.Proofs.Ytlbhedhbakhhlaa.Q

namespace Go.Proofs.Ytlbhedhbakhhlaa.Q
open Go.RowKit Go.Proofs.YtlbhedhbakhhlaaW.PrintWords Go.Proofs.YtlbhedhbakhhlaaW.PrintLast Go.Proofs.YtlbhedhbakhhlaaW.PrintMore
attribute [local go_sem] max2_int min2_int max_two min_two max_three min_three max_four min_four   -- for this text's walks alone
set_option linter.unusedVariables false
set_option linter.unusedSimpArgs false

/-! ### echo_Delays: function 17 -/
def echo_Delays.f (k : Nat) (l0 : List Int) : Option (List Int × Int) := (echo_Validate.f k l0).bind fun t101 => (if t101 = 0 then ((echo_delays.f k l0).bind fun t102 => (some (t102, 0))) else (some (([] : List Int), t101)))
theorem echo_Delays.mono : ∀ a0 k, LeO (echo_Delays.f k a0) (echo_Delays.f (k + 1) a0) := by
  intro a0 k
  unfold echo_Delays.f
  repeat' first
      | (with_reducible exact echo_Validate.mono _ _)
      | (with_reducible exact echo_delays.mono _ _)
      | (with_reducible exact LeO.refl _)
      | (with_reducible exact LeO.none _)
      | (with_reducible refine LeO.ite ?_ ?_)
      | (with_reducible refine LeO.bind ?_ (fun _ => ?_))
      | exact echo_Validate.mono _ _
      | exact echo_delays.mono _ _
      | exact LeO.none _
      | refine LeO.ite ?_ ?_
      | refine LeO.bind ?_ (fun _ => ?_)
set_option maxHeartbeats 8000000 in
set_option maxRecDepth 100000 in
theorem echo_Delays.calls (k : Nat) (A0 : Option Addr) (c0 : Nat) (l0 : List Int) (r1 : List Int) (r2 : Int) (w : World) (hr0 : Kd.C (Kd.int .i64) w A0 l0.length l0) (hc0 : l0.length ≤ c0) (h : echo_Delays.f k l0 = some (r1, r2)) :
    Calls Try.prog 17 #[.slice A0 l0.length c0] w fun e w' => ∃ v0_ : Value, e = .returned (.tuple #[v0_, .int .i64 r2]) ∧ Kd.R (Kd.int .i64) 3 w' w.heap.size (fun _ => True) v0_ r1 ∧ Below w.heap.size w w' := by
  have HR0 := Aside0.mk hr0
  have HC0 := Aside0.mk hc0
  clear hr0 hc0
  have HB := Aside0.mk (Below.refl w.heap.size w)
  have H : ((echo_Validate.f k l0).bind fun t101 => (if t101 = 0 then ((echo_delays.f k l0).bind fun t102 => (some (t102, 0))) else (some (([] : List Int), t101)))) = some (r1, r2) := h
  clear h
  replace H := Option.bind_eq_some_iff.mp H
  obtain ⟨t101, A20, H⟩ := H
  replace H : (if t101 = 0 then ((echo_delays.f k l0).bind fun t102 => (some (t102, 0))) else (some (([] : List Int), t101))) = some (r1, r2) := H
  have A2 := Aside0.mk A20
  clear A20
  by_cases c3 : t101 = 0
  · rw [if_pos c3] at H
    have c3b0 : (t101 == 0) = true := beq_iff_eq.mpr c3
    have c3b1 : (t101 != 0) = false := bne_eq_false_iff_eq.mpr c3
    clear c3
    replace H := Option.bind_eq_some_iff.mp H
    obtain ⟨t102, A40, H⟩ := H
    replace H : (some (t102, 0)) = some (r1, r2) := H
    have A4 := Aside0.mk A40
    clear A40
    simp only [Option.some.injEq, Prod.mk.injEq] at H
    obtain ⟨rfl, rfl⟩ := H
    go_enter Try.func17, Try.ntmps17
    go_wp2_with (first | ((with_reducible refine gate_callee (f := 21) rfl ?_); refine goesL_ (some 6) rfl rfl Try.func21 (by kernel_rfl) rfl #[.slice A0 l0.length c0] rfl (by (try simp only [List.map_toArray, List.map_cons, List.map_nil]); first | done | rfl | (simp only [List.length_drop, List.length_take]; rfl)) ?_; (with_reducible refine (echo_Validate.calls k _ _ l0 t101 _ ?side1 ?side2 A2.out).mono ?_); (case side1 => repeat (first | exact HR0.out | (with_reducible refine Kd.C_alloc ?_ _) | (with_reducible refine Kd.C_drewN ?_ _) | (with_reducible refine Kd.C_drew ?_))); (case side2 => exact HC0.out); rintro e w' ⟨rfl, ⟨nd, rfl⟩⟩; refine ⟨_, rfl, ?_⟩) | ((with_reducible refine gate_callee (f := 52) rfl ?_); refine goesL_ (some 11) rfl rfl Try.func52 (by kernel_rfl) rfl #[.slice A0 l0.length c0] rfl (by (try simp only [List.map_toArray, List.map_cons, List.map_nil]); first | done | rfl | (simp only [List.length_drop, List.length_take]; rfl)) ?_; (with_reducible refine (echo_delays.calls k _ _ l0 t102 _ ?side1 ?side2 A4.out).mono ?_); (case side1 => repeat (first | exact HR0.out | (with_reducible refine Kd.C_alloc ?_ _) | (with_reducible refine Kd.C_drewN ?_ _) | (with_reducible refine Kd.C_drew ?_))); (case side2 => exact HC0.out); rintro e w5 ⟨v103, rfl, ho0, hb⟩; refine ⟨_, rfl, ?_⟩; have n0_ := Aside0.mk (Kd.R_lower ho0 (below_size (by repeat (first | (with_reducible first | exact HB.out | apply below_alloc | apply pw_below_drewN | apply below_drew1) | exact HB.out)))); have n1_ := Aside0.mk (below_step (by repeat (first | (with_reducible first | exact HB.out | apply below_alloc | apply pw_below_drewN | apply below_drew1) | exact HB.out)) hb); clear HB; have HO104 := n0_; have HB := n1_; clear n0_ n1_; (try clear hb); (try clear hb2); (try clear hk); (try clear hi); (try clear ho0)))
    go_ret2
    exact ⟨_, by first | rfl | (simp [errW_none, errW_some] <;> rfl) | (simp [*, errW_none, errW_some] <;> rfl), by (with_reducible repeat (first | apply Kd.R_alloc | apply Kd.R_drewN | apply Kd.R_drew)); exact HO104.out, by repeat (first | (with_reducible first | exact HB.out | apply below_alloc | apply pw_below_drewN | apply below_drew1) | exact HB.out)⟩
  · rw [if_neg c3] at H
    have c3b0 : (t101 == 0) = false := beq_eq_false_iff_ne.mpr c3
    have c3b1 : (t101 != 0) = true := bne_iff_ne.mpr c3
    simp only [Option.some.injEq, Prod.mk.injEq] at H
    obtain ⟨rfl, rfl⟩ := H
    go_enter Try.func17, Try.ntmps17
    go_wp2_with (first | ((with_reducible refine gate_callee (f := 21) rfl ?_); refine goesL_ (some 6) rfl rfl Try.func21 (by kernel_rfl) rfl #[.slice A0 l0.length c0] rfl (by (try simp only [List.map_toArray, List.map_cons, List.map_nil]); first | done | rfl | (simp only [List.length_drop, List.length_take]; rfl)) ?_; (with_reducible refine (echo_Validate.calls k _ _ l0 t101 _ ?side1 ?side2 A2.out).mono ?_); (case side1 => repeat (first | exact HR0.out | (with_reducible refine Kd.C_alloc ?_ _) | (with_reducible refine Kd.C_drewN ?_ _) | (with_reducible refine Kd.C_drew ?_))); (case side2 => exact HC0.out); rintro e w' ⟨rfl, ⟨nd, rfl⟩⟩; refine ⟨_, rfl, ?_⟩))
    go_ret2
    exact ⟨_, by first | rfl | (simp [errW_none, errW_some] <;> rfl) | (simp [*, errW_none, errW_some] <;> rfl), by first | exact Kd.R_nil _ _ _ _ _ | exact Kd.N_nil _ _ _ _ _ | exact Kd.V_nil _ _ _ _ _ | exact Kd.Q_nil _ _ _ _ _ | exact Kd.S_nil _ _ _ _ _, by repeat (first | (with_reducible first | exact HB.out | apply below_alloc | apply pw_below_drewN | apply below_drew1) | exact HB.out)⟩

end Go.Proofs.Ytlbhedhbakhhlaa.Q

namespace Go.Proofs.Ytlbhedhbakhhlaa.Q
open Go.RowKit Go.Proofs.YtlbhedhbakhhlaaW.PrintWords Go.Proofs.YtlbhedhbakhhlaaW.PrintLast Go.Proofs.YtlbhedhbakhhlaaW.PrintMore
attribute [local go_sem] max2_int min2_int max_two min_two max_three min_three max_four min_four   -- for this text's walks alone
set_option linter.unusedVariables false
set_option linter.unusedSimpArgs false

/-! ### diaphoneref05_Delays: function 18 -/
def diaphoneref05_Delays.f (k : Nat) (l0 : List Int) : Option (List Int × Int) := (diaphoneref05_Validate.f k l0).bind fun t101 => (if t101 = 0 then ((diaphoneref05_delays.f k l0).bind fun t102 => (some (t102, 0))) else (some (([] : List Int), t101)))
theorem diaphoneref05_Delays.mono : ∀ a0 k, LeO (diaphoneref05_Delays.f k a0) (diaphoneref05_Delays.f (k + 1) a0) := by
  intro a0 k
  unfold diaphoneref05_Delays.f
  repeat' first
      | (with_reducible exact diaphoneref05_Validate.mono _ _)
      | (with_reducible exact diaphoneref05_delays.mono _ _)
      | (with_reducible exact LeO.refl _)
      | (with_reducible exact LeO.none _)
      | (with_reducible refine LeO.ite ?_ ?_)
      | (with_reducible refine LeO.bind ?_ (fun _ => ?_))
      | exact diaphoneref05_Validate.mono _ _
      | exact diaphoneref05_delays.mono _ _
      | exact LeO.none _
      | refine LeO.ite ?_ ?_
      | refine LeO.bind ?_ (fun _ => ?_)
set_option maxHeartbeats 8000000 in
set_option maxRecDepth 100000 in
theorem diaphoneref05_Delays.calls (k : Nat) (A0 : Option Addr) (c0 : Nat) (l0 : List Int) (r1 : List Int) (r2 : Int) (w : World) (hr0 : Kd.C (Kd.int .i64) w A0 l0.length l0) (hc0 : l0.length ≤ c0) (h : diaphoneref05_Delays.f k l0 = some (r1, r2)) :
    Calls Try.prog 18 #[.slice A0 l0.length c0] w fun e w' => ∃ v0_ : Value, e = .returned (.tuple #[v0_, .int .i64 r2]) ∧ Kd.R (Kd.int .i64) 3 w' w.heap.size (fun _ => True) v0_ r1 ∧ Below w.heap.size w w' := by
  have HR0 := Aside0.mk hr0
  have HC0 := Aside0.mk hc0
  clear hr0 hc0
  have HB := Aside0.mk (Below.refl w.heap.size w)
  have H : ((diaphoneref05_Validate.f k l0).bind fun t101 => (if t101 = 0 then ((diaphoneref05_delays.f k l0).bind fun t102 => (some (t102, 0))) else (some (([] : List Int), t101)))) = some (r1, r2) := h
  clear h
  replace H := Option.bind_eq_some_iff.mp H
  obtain ⟨t101, A20, H⟩ := H
  replace H : (if t101 = 0 then ((diaphoneref05_delays.f k l0).bind fun t102 => (some (t102, 0))) else (some (([] : List Int), t101))) = some (r1, r2) := H
  have A2 := Aside0.mk A20
  clear A20
  by_cases c3 : t101 = 0
  · rw [if_pos c3] at H
    have c3b0 : (t101 == 0) = true := beq_iff_eq.mpr c3
    have c3b1 : (t101 != 0) = false := bne_eq_false_iff_eq.mpr c3
    clear c3
    replace H := Option.bind_eq_some_iff.mp H
    obtain ⟨t102, A40, H⟩ := H
    replace H : (some (t102, 0)) = some (r1, r2) := H
    have A4 := Aside0.mk A40
    clear A40
    simp only [Option.some.injEq, Prod.mk.injEq] at H
    obtain ⟨rfl, rfl⟩ := H
    go_enter Try.func18, Try.ntmps18
    go_wp2_with (first | ((with_reducible refine gate_callee (f := 22) rfl ?_); refine goesL_ (some 6) rfl rfl Try.func22 (by kernel_rfl) rfl #[.slice A0 l0.length c0] rfl (by (try simp only [List.map_toArray, List.map_cons, List.map_nil]); first | done | rfl | (simp only [List.length_drop, List.length_take]; rfl)) ?_; (with_reducible refine (diaphoneref05_Validate.calls k _ _ l0 t101 _ ?side1 ?side2 A2.out).mono ?_); (case side1 => repeat (first | exact HR0.out | (with_reducible refine Kd.C_alloc ?_ _) | (with_reducible refine Kd.C_drewN ?_ _) | (with_reducible refine Kd.C_drew ?_))); (case side2 => exact HC0.out); rintro e w' ⟨rfl, ⟨nd, rfl⟩⟩; refine ⟨_, rfl, ?_⟩) | ((with_reducible refine gate_callee (f := 53) rfl ?_); refine goesL_ (some 11) rfl rfl Try.func53 (by kernel_rfl) rfl #[.slice A0 l0.length c0] rfl (by (try simp only [List.map_toArray, List.map_cons, List.map_nil]); first | done | rfl | (simp only [List.length_drop, List.length_take]; rfl)) ?_; (with_reducible refine (diaphoneref05_delays.calls k _ _ l0 t102 _ ?side1 ?side2 A4.out).mono ?_); (case side1 => repeat (first | exact HR0.out | (with_reducible refine Kd.C_alloc ?_ _) | (with_reducible refine Kd.C_drewN ?_ _) | (with_reducible refine Kd.C_drew ?_))); (case side2 => exact HC0.out); rintro e w5 ⟨v103, rfl, ho0, hb⟩; refine ⟨_, rfl, ?_⟩; have n0_ := Aside0.mk (Kd.R_lower ho0 (below_size (by repeat (first | (with_reducible first | exact HB.out | apply below_alloc | apply pw_below_drewN | apply below_drew1) | exact HB.out)))); have n1_ := Aside0.mk (below_step (by repeat (first | (with_reducible first | exact HB.out | apply below_alloc | apply pw_below_drewN | apply below_drew1) | exact HB.out)) hb); clear HB; have HO104 := n0_; have HB := n1_; clear n0_ n1_; (try clear hb); (try clear hb2); (try clear hk); (try clear hi); (try clear ho0)))
    go_ret2
    exact ⟨_, by first | rfl | (simp [errW_none, errW_some] <;> rfl) | (simp [*, errW_none, errW_some] <;> rfl), by (with_reducible repeat (first | apply Kd.R_alloc | apply Kd.R_drewN | apply Kd.R_drew)); exact HO104.out, by repeat (first | (with_reducible first | exact HB.out | apply below_alloc | apply pw_below_drewN | apply below_drew1) | exact HB.out)⟩
  · rw [if_neg c3] at H
    have c3b0 : (t101 == 0) = false := beq_eq_false_iff_ne.mpr c3
    have c3b1 : (t101 != 0) = true := bne_iff_ne.mpr c3
    simp only [Option.some.injEq, Prod.mk.injEq] at H
    obtain ⟨rfl, rfl⟩ := H
    go_enter Try.func18, Try.ntmps18
    go_wp2_with (first | ((with_reducible refine gate_callee (f := 22) rfl ?_); refine goesL_ (some 6) rfl rfl Try.func22 (by kernel_rfl) rfl #[.slice A0 l0.length c0] rfl (by (try simp only [List.map_toArray, List.map_cons, List.map_nil]); first | done | rfl | (simp only [List.length_drop, List.length_take]; rfl)) ?_; (with_reducible refine (diaphoneref05_Validate.calls k _ _ l0 t101 _ ?side1 ?side2 A2.out).mono ?_); (case side1 => repeat (first | exact HR0.out | (with_reducible refine Kd.C_alloc ?_ _) | (with_reducible refine Kd.C_drewN ?_ _) | (with_reducible refine Kd.C_drew ?_))); (case side2 => exact HC0.out); rintro e w' ⟨rfl, ⟨nd, rfl⟩⟩; refine ⟨_, rfl, ?_⟩))
    go_ret2
    exact ⟨_, by first | rfl | (simp [errW_none, errW_some] <;> rfl) | (simp [*, errW_none, errW_some] <;> rfl), by first | exact Kd.R_nil _ _ _ _ _ | exact Kd.N_nil _ _ _ _ _ | exact Kd.V_nil _ _ _ _ _ | exact Kd.Q_nil _ _ _ _ _ | exact Kd.S_nil _ _ _ _ _, by repeat (first | (with_reducible first | exact HB.out | apply below_alloc | apply pw_below_drewN | apply below_drew1) | exact HB.out)⟩

end Go.Proofs.Ytlbhedhbakhhlaa.Q

namespace Go.Proofs.Ytlbhedhbakhhlaa.Q
open Go.RowKit Go.Proofs.YtlbhedhbakhhlaaW.PrintWords Go.Proofs.YtlbhedhbakhhlaaW.PrintLast Go.Proofs.YtlbhedhbakhhlaaW.PrintMore
attribute [local go_sem] max2_int min2_int max_two min_two max_three min_three max_four min_four   -- for this text's walks alone
set_option linter.unusedVariables false
set_option linter.unusedSimpArgs false

/-! ### echo_IsRuler: function 19 -/
def echo_IsRuler.f (k : Nat) (l0 : List Int) : Option (Bool × Int) := (echo_Validate.f k l0).bind fun t101 => (if t101 = 0 then ((echo_isRuler.f k l0).bind fun t102 => (some (t102, 0))) else (some (false, t101)))
theorem echo_IsRuler.mono : ∀ a0 k, LeO (echo_IsRuler.f k a0) (echo_IsRuler.f (k + 1) a0) := by
  intro a0 k
  unfold echo_IsRuler.f
  repeat' first
      | (with_reducible exact echo_Validate.mono _ _)
      | (with_reducible exact echo_isRuler.mono _ _)
      | (with_reducible exact LeO.refl _)
      | (with_reducible exact LeO.none _)
      | (with_reducible refine LeO.ite ?_ ?_)
      | (with_reducible refine LeO.bind ?_ (fun _ => ?_))
      | exact echo_Validate.mono _ _
      | exact echo_isRuler.mono _ _
      | exact LeO.none _
      | refine LeO.ite ?_ ?_
      | refine LeO.bind ?_ (fun _ => ?_)
set_option maxHeartbeats 8000000 in
set_option maxRecDepth 100000 in
theorem echo_IsRuler.calls (k : Nat) (A0 : Option Addr) (c0 : Nat) (l0 : List Int) (r1 : Bool) (r2 : Int) (w : World) (hr0 : Kd.C (Kd.int .i64) w A0 l0.length l0) (hc0 : l0.length ≤ c0) (h : echo_IsRuler.f k l0 = some (r1, r2)) :
    Calls Try.prog 19 #[.slice A0 l0.length c0] w fun e w' => e = .returned (.tuple #[.bool r1, .int .i64 r2]) ∧ Below w.heap.size w w' := by
  have HR0 := Aside0.mk hr0
  have HC0 := Aside0.mk hc0
  clear hr0 hc0
  have HB := Aside0.mk (Below.refl w.heap.size w)
  have H : ((echo_Validate.f k l0).bind fun t101 => (if t101 = 0 then ((echo_isRuler.f k l0).bind fun t102 => (some (t102, 0))) else (some (false, t101)))) = some (r1, r2) := h
  clear h
  replace H := Option.bind_eq_some_iff.mp H
  obtain ⟨t101, A20, H⟩ := H
  replace H : (if t101 = 0 then ((echo_isRuler.f k l0).bind fun t102 => (some (t102, 0))) else (some (false, t101))) = some (r1, r2) := H
  have A2 := Aside0.mk A20
  clear A20
  by_cases c3 : t101 = 0
  · rw [if_pos c3] at H
    have c3b0 : (t101 == 0) = true := beq_iff_eq.mpr c3
    have c3b1 : (t101 != 0) = false := bne_eq_false_iff_eq.mpr c3
    clear c3
    replace H := Option.bind_eq_some_iff.mp H
    obtain ⟨t102, A40, H⟩ := H
    replace H : (some (t102, 0)) = some (r1, r2) := H
    have A4 := Aside0.mk A40
    clear A40
    simp only [Option.some.injEq, Prod.mk.injEq] at H
    obtain ⟨rfl, rfl⟩ := H
    go_enter Try.func19, Try.ntmps19
    go_wp2_with (first | ((with_reducible refine gate_callee (f := 21) rfl ?_); refine goesL_ (some 6) rfl rfl Try.func21 (by kernel_rfl) rfl #[.slice A0 l0.length c0] rfl (by (try simp only [List.map_toArray, List.map_cons, List.map_nil]); first | done | rfl | (simp only [List.length_drop, List.length_take]; rfl)) ?_; (with_reducible refine (echo_Validate.calls k _ _ l0 t101 _ ?side1 ?side2 A2.out).mono ?_); (case side1 => repeat (first | exact HR0.out | (with_reducible refine Kd.C_alloc ?_ _) | (with_reducible refine Kd.C_drewN ?_ _) | (with_reducible refine Kd.C_drew ?_))); (case side2 => exact HC0.out); rintro e w' ⟨rfl, ⟨nd, rfl⟩⟩; refine ⟨_, rfl, ?_⟩) | ((with_reducible refine gate_callee (f := 54) rfl ?_); refine goesL_ (some 11) rfl rfl Try.func54 (by kernel_rfl) rfl #[.slice A0 l0.length c0] rfl (by (try simp only [List.map_toArray, List.map_cons, List.map_nil]); first | done | rfl | (simp only [List.length_drop, List.length_take]; rfl)) ?_; (with_reducible refine (echo_isRuler.calls k _ _ l0 t102 _ ?side1 ?side2 A4.out).mono ?_); (case side1 => repeat (first | exact HR0.out | (with_reducible refine Kd.C_alloc ?_ _) | (with_reducible refine Kd.C_drewN ?_ _) | (with_reducible refine Kd.C_drew ?_))); (case side2 => exact HC0.out); rintro e w5 ⟨rfl, hb⟩; refine ⟨_, rfl, ?_⟩; have n0_ := Aside0.mk (below_step (by repeat (first | (with_reducible first | exact HB.out | apply below_alloc | apply pw_below_drewN | apply below_drew1) | exact HB.out)) hb); clear HB; have HB := n0_; clear n0_; (try clear hb); (try clear hb2); (try clear hk); (try clear hi)))
    go_ret2
    exact ⟨by first | rfl | (simp [errW_none, errW_some] <;> rfl) | (simp [*, errW_none, errW_some] <;> rfl), by repeat (first | (with_reducible first | exact HB.out | apply below_alloc | apply pw_below_drewN | apply below_drew1) | exact HB.out)⟩
  · rw [if_neg c3] at H
    have c3b0 : (t101 == 0) = false := beq_eq_false_iff_ne.mpr c3
    have c3b1 : (t101 != 0) = true := bne_iff_ne.mpr c3
    simp only [Option.some.injEq, Prod.mk.injEq] at H
    obtain ⟨rfl, rfl⟩ := H
    go_enter Try.func19, Try.ntmps19
    go_wp2_with (first | ((with_reducible refine gate_callee (f := 21) rfl ?_); refine goesL_ (some 6) rfl rfl Try.func21 (by kernel_rfl) rfl #[.slice A0 l0.length c0] rfl (by (try simp only [List.map_toArray, List.map_cons, List.map_nil]); first | done | rfl | (simp only [List.length_drop, List.length_take]; rfl)) ?_; (with_reducible refine (echo_Validate.calls k _ _ l0 t101 _ ?side1 ?side2 A2.out).mono ?_); (case side1 => repeat (first | exact HR0.out | (with_reducible refine Kd.C_alloc ?_ _) | (with_reducible refine Kd.C_drewN ?_ _) | (with_reducible refine Kd.C_drew ?_))); (case side2 => exact HC0.out); rintro e w' ⟨rfl, ⟨nd, rfl⟩⟩; refine ⟨_, rfl, ?_⟩))
    go_ret2
    exact ⟨by first | rfl | (simp [errW_none, errW_some] <;> rfl) | (simp [*, errW_none, errW_some] <;> rfl), by repeat (first | (with_reducible first | exact HB.out | apply below_alloc | apply pw_below_drewN | apply below_drew1) | exact HB.out)⟩

end Go.Proofs.Ytlbhedhbakhhlaa.Q

namespace Go.Proofs.Ytlbhedhbakhhlaa.Q
open Go.RowKit Go.Proofs.YtlbhedhbakhhlaaW.PrintWords Go.Proofs.YtlbhedhbakhhlaaW.PrintLast Go.Proofs.YtlbhedhbakhhlaaW.PrintMore
attribute [local go_sem] max2_int min2_int max_two min_two max_three min_three max_four min_four   -- for this text's walks alone
set_option linter.unusedVariables false
set_option linter.unusedSimpArgs false

/-! ### diaphoneref05_IsRuler: function 20 -/
def diaphoneref05_IsRuler.f (k : Nat) (l0 : List Int) : Option (Bool × Int) := (diaphoneref05_Validate.f k l0).bind fun t101 => (if t101 = 0 then ((diaphoneref05_ruler.f k l0).bind fun t102 => (some (t102, 0))) else (some (false, t101)))
theorem diaphoneref05_IsRuler.mono : ∀ a0 k, LeO (diaphoneref05_IsRuler.f k a0) (diaphoneref05_IsRuler.f (k + 1) a0) := by
  intro a0 k
  unfold diaphoneref05_IsRuler.f
  repeat' first
      | (with_reducible exact diaphoneref05_Validate.mono _ _)
      | (with_reducible exact diaphoneref05_ruler.mono _ _)
      | (with_reducible exact LeO.refl _)
      | (with_reducible exact LeO.none _)
      | (with_reducible refine LeO.ite ?_ ?_)
      | (with_reducible refine LeO.bind ?_ (fun _ => ?_))
      | exact diaphoneref05_Validate.mono _ _
      | exact diaphoneref05_ruler.mono _ _
      | exact LeO.none _
      | refine LeO.ite ?_ ?_
      | refine LeO.bind ?_ (fun _ => ?_)
set_option maxHeartbeats 8000000 in
set_option maxRecDepth 100000 in
theorem diaphoneref05_IsRuler.calls (k : Nat) (A0 : Option Addr) (c0 : Nat) (l0 : List Int) (r1 : Bool) (r2 : Int) (w : World) (hr0 : Kd.C (Kd.int .i64) w A0 l0.length l0) (hc0 : l0.length ≤ c0) (h : diaphoneref05_IsRuler.f k l0 = some (r1, r2)) :
    Calls Try.prog 20 #[.slice A0 l0.length c0] w fun e w' => e = .returned (.tuple #[.bool r1, .int .i64 r2]) ∧ Below w.heap.size w w' := by
  have HR0 := Aside0.mk hr0
  have HC0 := Aside0.mk hc0
  clear hr0 hc0
  have HB := Aside0.mk (Below.refl w.heap.size w)
  have H : ((diaphoneref05_Validate.f k l0).bind fun t101 => (if t101 = 0 then ((diaphoneref05_ruler.f k l0).bind fun t102 => (some (t102, 0))) else (some (false, t101)))) = some (r1, r2) := h
  clear h
  replace H := Option.bind_eq_some_iff.mp H
  obtain ⟨t101, A20, H⟩ := H
  replace H : (if t101 = 0 then ((diaphoneref05_ruler.f k l0).bind fun t102 => (some (t102, 0))) else (some (false, t101))) = some (r1, r2) := H
  have A2 := Aside0.mk A20
  clear A20
  by_cases c3 : t101 = 0
  · rw [if_pos c3] at H
    have c3b0 : (t101 == 0) = true := beq_iff_eq.mpr c3
    have c3b1 : (t101 != 0) = false := bne_eq_false_iff_eq.mpr c3
    clear c3
    replace H := Option.bind_eq_some_iff.mp H
    obtain ⟨t102, A40, H⟩ := H
    replace H : (some (t102, 0)) = some (r1, r2) := H
    have A4 := Aside0.mk A40
    clear A40
    simp only [Option.some.injEq, Prod.mk.injEq] at H
    obtain ⟨rfl, rfl⟩ := H
    go_enter Try.func20, Try.ntmps20
    go_wp2_with (first | ((with_reducible refine gate_callee (f := 22) rfl ?_); refine goesL_ (some 6) rfl rfl Try.func22 (by kernel_rfl) rfl #[.slice A0 l0.length c0] rfl (by (try simp only [List.map_toArray, List.map_cons, List.map_nil]); first | done | rfl | (simp only [List.length_drop, List.length_take]; rfl)) ?_; (with_reducible refine (diaphoneref05_Validate.calls k _ _ l0 t101 _ ?side1 ?side2 A2.out).mono ?_); (case side1 => repeat (first | exact HR0.out | (with_reducible refine Kd.C_alloc ?_ _) | (with_reducible refine Kd.C_drewN ?_ _) | (with_reducible refine Kd.C_drew ?_))); (case side2 => exact HC0.out); rintro e w' ⟨rfl, ⟨nd, rfl⟩⟩; refine ⟨_, rfl, ?_⟩) | ((with_reducible refine gate_callee (f := 55) rfl ?_); refine goesL_ (some 11) rfl rfl Try.func55 (by kernel_rfl) rfl #[.slice A0 l0.length c0] rfl (by (try simp only [List.map_toArray, List.map_cons, List.map_nil]); first | done | rfl | (simp only [List.length_drop, List.length_take]; rfl)) ?_; (with_reducible refine (diaphoneref05_ruler.calls k _ _ l0 t102 _ ?side1 ?side2 A4.out).mono ?_); (case side1 => repeat (first | exact HR0.out | (with_reducible refine Kd.C_alloc ?_ _) | (with_reducible refine Kd.C_drewN ?_ _) | (with_reducible refine Kd.C_drew ?_))); (case side2 => exact HC0.out); rintro e w5 ⟨rfl, hb⟩; refine ⟨_, rfl, ?_⟩; have n0_ := Aside0.mk (below_step (by repeat (first | (with_reducible first | exact HB.out | apply below_alloc | apply pw_below_drewN | apply below_drew1) | exact HB.out)) hb); clear HB; have HB := n0_; clear n0_; (try clear hb); (try clear hb2); (try clear hk); (try clear hi)))
    go_ret2
    exact ⟨by first | rfl | (simp [errW_none, errW_some] <;> rfl) | (simp [*, errW_none, errW_some] <;> rfl), by repeat (first | (with_reducible first | exact HB.out | apply below_alloc | apply pw_below_drewN | apply below_drew1) | exact HB.out)⟩
  · rw [if_neg c3] at H
    have c3b0 : (t101 == 0) = false := beq_eq_false_iff_ne.mpr c3
    have c3b1 : (t101 != 0) = true := bne_iff_ne.mpr c3
    simp only [Option.some.injEq, Prod.mk.injEq] at H
    obtain ⟨rfl, rfl⟩ := H
    go_enter Try.func20, Try.ntmps20
    go_wp2_with (first | ((with_reducible refine gate_callee (f := 22) rfl ?_); refine goesL_ (some 6) rfl rfl Try.func22 (by kernel_rfl) rfl #[.slice A0 l0.length c0] rfl (by (try simp only [List.map_toArray, List.map_cons, List.map_nil]); first | done | rfl | (simp only [List.length_drop, List.length_take]; rfl)) ?_; (with_reducible refine (diaphoneref05_Validate.calls k _ _ l0 t101 _ ?side1 ?side2 A2.out).mono ?_); (case side1 => repeat (first | exact HR0.out | (with_reducible refine Kd.C_alloc ?_ _) | (with_reducible refine Kd.C_drewN ?_ _) | (with_reducible refine Kd.C_drew ?_))); (case side2 => exact HC0.out); rintro e w' ⟨rfl, ⟨nd, rfl⟩⟩; refine ⟨_, rfl, ?_⟩))
    go_ret2
    exact ⟨by first | rfl | (simp [errW_none, errW_some] <;> rfl) | (simp [*, errW_none, errW_some] <;> rfl), by repeat (first | (with_reducible first | exact HB.out | apply below_alloc | apply pw_below_drewN | apply below_drew1) | exact HB.out)⟩

end Go.Proofs.Ytlbhedhbakhhlaa.Q

/- The delays, by the code and by the document, and whether none comes twice. -/
namespace Go.Proofs.Ytlbhedhbakhhlaa.Q
open Go.RowKit Go.Proofs.YtlbhedhbakhhlaaW.PrintWords Go.Proofs.YtlbhedhbakhhlaaW.PrintLast Go.Proofs.YtlbhedhbakhhlaaW.PrintMore

/-- Few numbers, all small. -/
structure Small (c : List Int) : Prop where
  len : c.length ≤ 1000
  at_ : ∀ i, -1000000 ≤ at_ c i ∧ at_ c i ≤ 1000000
theorem at_ge (l : List Int) (i : Nat) (h : l.length ≤ i) : at_ l i = 0 := by
  unfold at_
  rw [List.getD_eq_getElem?_getD, List.getElem?_eq_none h]
  rfl
theorem V.small {c : List Int} (h : V c) : Small c where
  len := by have := h.six; omega
  at_ := fun i => by
    by_cases hi : i < c.length
    · have := h.range hi; omega
    · rw [at_ge c i (by omega)]; omega

def dif (c : List Int) (a b : Nat) : Int := at_ c a - at_ c b
/-- The delays of the first n cliffs. -/
def D (c : List Int) : Nat → List Int
  | 0 => []
  | n + 1 => D c n ++ (List.range n).map (dif c n)
theorem D_len (c : List Int) : ∀ n, n ≤ 1000 → (D c n).length ≤ n * 1000
  | 0, _ => by simp [D]
  | n + 1, h => by
    have := D_len c n (by omega)
    simp only [D, List.length_append, List.length_map, List.length_range]
    omega
theorem dif_wrap {c : List Int} (h : Small c) (a b : Nat) : wrap64 (at_ c a - at_ c b) = dif c a b := by
  have h1 := h.at_ a
  have h2 := h.at_ b
  exact wrap_of (by omega) (by omega)
theorem part_succ (c : List Int) (i j : Nat) : D c i ++ (List.range (j + 1)).map (dif c i) = (D c i ++ (List.range j).map (dif c i)) ++ [dif c i j] := by
  rw [List.range_succ, List.map_append, List.append_assoc]
  rfl
theorem part_len {c : List Int} (h : Small c) (i j : Nat) (hi : i ≤ 1000) (hj : j ≤ 1000) : (D c i ++ (List.range j).map (dif c i)).length < 17592186044416 := by
  have := D_len c i hi
  simp only [List.length_append, List.length_map, List.length_range]
  omega
theorem sort_ev (l : List Int) (h : l.length < 17592186044416) : slices_Sort_int_int.f l = some (isortI l) := by
  unfold slices_Sort_int_int.f
  rw [if_pos h]
theorem rd_take (c : List Int) (i j : Nat) (h : j < i) : rd (c.take i) (j : Int) = at_ c j := by
  show (c.take i).getD j 0 = c.getD j 0
  rw [List.getD_eq_getElem?_getD, List.getD_eq_getElem?_getD, List.getElem?_take_of_lt h]

theorem delays_l0 {c : List Int} (h : Small c) : ∀ m i, c.length - i = m → i ≤ c.length → Ev (fun k => echo_delays.l0 k c (D c i) c (c.length : Int) (i : Int)) (isortI (D c c.length)) := by
  have hlen := h.len
  intro m
  induction m with
  | zero =>
    intro i hm hi
    have : i = c.length := by omega
    subst this
    refine Ev.step (Ev.pure _) fun k => ?_
    have := D_len c c.length h.len
    rw [echo_delays.l0, if_neg (by omega), sort_ev _ (by omega)]
    rfl
  | succ m ih =>
    intro i hm hi
    have key : ∀ m' j, i - j = m' → j ≤ i → Ev (fun k => echo_delays.l1 k c (D c i ++ (List.range j).map (dif c i)) (at_ c i) c (c.length : Int) (i : Int) (c.take i) ((c.take i).length : Int) (j : Int)) (isortI (D c c.length)) := by
      intro m'
      induction m' with
      | zero =>
        intro j hm' hj
        have : j = i := by omega
        subst this
        refine Ev.step (ih (j + 1) (by omega) (by omega)) fun k => ?_
        rw [echo_delays.l1, if_neg (by rw [List.length_take]; omega), wrap_succ (by omega)]
        rfl
      | succ m' ih' =>
        intro j hm' hj
        refine Ev.step (ih' (j + 1) (by omega) (by omega)) fun k => ?_
        rw [echo_delays.l1, if_pos (by rw [List.length_take]; omega), if_pos (by omega), if_pos (by rw [List.length_take]; omega), if_pos (part_len h i j (by omega) (by omega)), rd_take c i j (by omega), dif_wrap h, wrap_succ (by omega), ← part_succ]
    refine Ev.step (key i 0 (by omega) (by omega)) fun k => ?_
    rw [echo_delays.l0, if_pos (by omega), if_pos (by omega), if_pos (by omega), if_pos (by omega), Int.toNat_natCast, rd_at]
    simp
theorem delays_ev {c : List Int} (h : Small c) : Ev (fun k => echo_delays.f k c) (isortI (D c c.length)) := by
  unfold echo_delays.f
  exact delays_l0 h c.length 0 (by omega) (by omega)

theorem rdelays_l0 {c : List Int} (h : Small c) : ∀ m i, c.length - i = m → i ≤ c.length → Ev (fun k => diaphoneref05_delays.l0 k c (D c i) (i : Int)) (isortI (D c c.length)) := by
  have hlen := h.len
  intro m
  induction m with
  | zero =>
    intro i hm hi
    have : i = c.length := by omega
    subst this
    have := D_len c c.length h.len
    refine Ev.step (Ev.bind (sorted_ev (D c c.length) (by omega)) (Ev.pure _)) fun k => ?_
    rw [diaphoneref05_delays.l0, if_neg (by omega)]
  | succ m ih =>
    intro i hm hi
    have key : ∀ m' j, i - j = m' → j ≤ i → Ev (fun k => diaphoneref05_delays.l1 k c (D c i ++ (List.range j).map (dif c i)) (i : Int) (j : Int)) (isortI (D c c.length)) := by
      intro m'
      induction m' with
      | zero =>
        intro j hm' hj
        have : j = i := by omega
        subst this
        refine Ev.step (ih (j + 1) (by omega) (by omega)) fun k => ?_
        rw [diaphoneref05_delays.l1, if_neg (by omega), wrap_succ (by omega)]
        rfl
      | succ m' ih' =>
        intro j hm' hj
        refine Ev.step (ih' (j + 1) (by omega) (by omega)) fun k => ?_
        rw [diaphoneref05_delays.l1, if_pos (by omega), if_pos (by omega), if_pos (by omega), if_pos (by omega), if_pos (by omega), if_pos (part_len h i j (by omega) (by omega)), rd_at, rd_at, dif_wrap h, wrap_succ (by omega), ← part_succ]
    refine Ev.step (key i 0 (by omega) (by omega)) fun k => ?_
    rw [diaphoneref05_delays.l0, if_pos (by omega)]
    simp
theorem rdelays_ev {c : List Int} (h : Small c) : Ev (fun k => diaphoneref05_delays.f k c) (isortI (D c c.length)) := by
  unfold diaphoneref05_delays.f
  exact rdelays_l0 h c.length 0 (by omega) (by omega)

/-- All delays, sorted. -/
def dl (c : List Int) : List Int := isortI (D c c.length)
theorem dl_len {c : List Int} (h : Small c) : (dl c).length ≤ 1000000 := by
  unfold dl isortI
  rw [(sortBy_perm leI _).length_eq]
  have := D_len c c.length h.len
  have := h.len
  omega

/-! ### None twice -/
def allKept (s : List Int) : Prop := ∀ j, j < s.length → Lib.keeps s.toArray j = true
instance (s : List Int) : Decidable (allKept s) := inferInstanceAs (Decidable (∀ j, j < s.length → Lib.keeps s.toArray j = true))
theorem compact_len (s : List Int) : (Lib.compact s).length = s.length ↔ allKept s := by
  unfold Lib.compact Lib.compactUpTo
  rw [List.length_map]
  have h : ((List.range s.length).filter (Lib.keeps s.toArray)).length = (List.range s.length).length ↔ ∀ a ∈ List.range s.length, Lib.keeps s.toArray a = true := List.length_filter_eq_length_iff
  rw [List.length_range] at h
  rw [h]
  simp [allKept]
theorem compact_le (s : List Int) : (Lib.compact s).length ≤ s.length := by
  unfold Lib.compact Lib.compactUpTo
  rw [List.length_map]
  have := List.length_filter_le (Lib.keeps s.toArray) (List.range s.length)
  simpa using this
theorem keeps_at (s : List Int) (j : Nat) (hj : j < s.length) : Lib.keeps s.toArray j = decide (j = 0 ∨ at_ s j ≠ at_ s (j - 1)) := by
  unfold Lib.keeps
  have e : ∀ i, i < s.length → s.toArray[i]! = at_ s i := fun i hi => by
    rw [getElem!_pos _ _ (by simpa using hi), at_lt s i hi]
    simp
  rw [e j hj, e (j - 1) (by omega)]
theorem isRuler_ev {c : List Int} (h : Small c) : Ev (fun k => echo_isRuler.f k c) (decide (allKept (dl c))) := by
  unfold echo_isRuler.f
  refine Ev.bind (delays_ev h) ?_
  have hl := dl_len h
  unfold dl at hl
  unfold slices_Clone_int_int.f slices_Compact_int_int.f
  simp only [if_pos (show (isortI (D c c.length)).length < 17592186044416 by omega), Option.bind_some]
  have e : (((Lib.compact (isortI (D c c.length))).length : Int) == ((isortI (D c c.length)).length : Int)) = decide (allKept (dl c)) := by
    rw [Bool.eq_iff_iff]
    simp only [beq_iff_eq, decide_eq_true_eq]
    rw [← compact_len]
    unfold dl
    omega
  rw [e]
  exact Ev.pure _
theorem ruler_l0 (s : List Int) (hs : s.length ≤ 1000000) : ∀ m i, s.length - i = m → 0 < i → (∀ j, j < i → j < s.length → Lib.keeps s.toArray j = true) → Ev (fun k => diaphoneref05_ruler.l0 k s (i : Int)) (decide (allKept s)) := by
  intro m
  induction m with
  | zero =>
    intro i hm hi hk
    have e : decide (allKept s) = true := decide_eq_true (fun j hj => hk j (by omega) hj)
    rw [e]
    refine Ev.step (Ev.pure _) fun k => ?_
    rw [diaphoneref05_ruler.l0, if_neg (by omega)]
  | succ m ih =>
    intro i hm hi hk
    by_cases he : at_ s i = at_ s (i - 1)
    · have e : decide (allKept s) = false := decide_eq_false (fun hall => by
        have := hall i (by omega)
        rw [keeps_at s i (by omega), decide_eq_true_eq] at this
        omega)
      rw [e]
      refine Ev.step (Ev.pure _) fun k => ?_
      rw [diaphoneref05_ruler.l0, if_pos (by omega), if_pos (by omega), wrap_pred (by omega) hi, if_pos (by omega), if_pos (by omega), rd_at, rd_at, if_pos he]
    · refine Ev.step (ih (i + 1) (by omega) (by omega) (fun j hj hjl => ?_)) fun k => ?_
      · by_cases e : j = i
        · subst e
          rw [keeps_at s j hjl]
          simp [he]
        · exact hk j (by omega) hjl
      · rw [diaphoneref05_ruler.l0, if_pos (by omega), if_pos (by omega), wrap_pred (by omega) hi, if_pos (by omega), if_pos (by omega), rd_at, rd_at, if_neg he, wrap_succ (by omega)]
theorem ruler_ev {c : List Int} (h : Small c) : Ev (fun k => diaphoneref05_ruler.f k c) (decide (allKept (dl c))) := by
  unfold diaphoneref05_ruler.f
  exact Ev.bind (rdelays_ev h) (ruler_l0 (dl c) (dl_len h) _ 1 rfl (by omega) (fun j hj hl => by
    have : j = 0 := by omega
    subst this
    rw [keeps_at _ _ hl]
    simp))

/-! ### Delays and IsRuler -/
theorem Delays_ev (c : List Int) : Ev (fun k => echo_Delays.f k c) (if vErr c = 0 then dl c else [], vErr c) := by
  unfold echo_Delays.f
  refine Ev.bind (validate_ev c) ?_
  by_cases h : vErr c = 0
  · simp only [if_pos h]
    rw [h]
    exact Ev.bind (delays_ev (vErr_zero h).small) (Ev.pure _)
  · simp only [if_neg h]
    exact Ev.pure _
theorem RDelays_ev (c : List Int) : Ev (fun k => diaphoneref05_Delays.f k c) (if vErr c = 0 then dl c else [], vErr c) := by
  unfold diaphoneref05_Delays.f
  refine Ev.bind (rvalidate_ev c) ?_
  by_cases h : vErr c = 0
  · simp only [if_pos h]
    rw [h]
    exact Ev.bind (rdelays_ev (vErr_zero h).small) (Ev.pure _)
  · simp only [if_neg h]
    exact Ev.pure _
theorem IsRuler_ev (c : List Int) : Ev (fun k => echo_IsRuler.f k c) (if vErr c = 0 then decide (allKept (dl c)) else false, vErr c) := by
  unfold echo_IsRuler.f
  refine Ev.bind (validate_ev c) ?_
  by_cases h : vErr c = 0
  · simp only [if_pos h]
    rw [h]
    exact Ev.bind (isRuler_ev (vErr_zero h).small) (Ev.pure _)
  · simp only [if_neg h]
    exact Ev.pure _
theorem RIsRuler_ev (c : List Int) : Ev (fun k => diaphoneref05_IsRuler.f k c) (if vErr c = 0 then decide (allKept (dl c)) else false, vErr c) := by
  unfold diaphoneref05_IsRuler.f
  refine Ev.bind (rvalidate_ev c) ?_
  by_cases h : vErr c = 0
  · simp only [if_pos h]
    rw [h]
    exact Ev.bind (ruler_ev (vErr_zero h).small) (Ev.pure _)
  · simp only [if_neg h]
    exact Ev.pure _
end Go.Proofs.Ytlbhedhbakhhlaa.Q

/- The differences of the pairs of a row: what moving and mirroring do to them. -/
namespace Go.Proofs.Ytlbhedhbakhhlaa.Q
open Go.RowKit Go.Proofs.YtlbhedhbakhhlaaW.PrintWords Go.Proofs.YtlbhedhbakhhlaaW.PrintLast Go.Proofs.YtlbhedhbakhhlaaW.PrintMore

theorem isortI_perm (l : List Int) : (isortI l).Perm l := sortBy_perm leI l
theorem isortI_sorted (l : List Int) : (isortI l).Pairwise (fun a b => a ≤ b) := by
  have := sortBy_sorted leI_trans leI_total l
  exact this.imp (fun h => by simpa [leI] using h)
theorem isortI_uniq {s l : List Int} (hp : s.Perm l) (hs : s.Pairwise (fun a b => a ≤ b)) : s = isortI l :=
  List.Perm.eq_of_pairwise (le := fun a b => a ≤ b) (fun a b _ _ h1 h2 => by omega) hs (isortI_sorted l) (hp.trans (isortI_perm l).symm)
theorem isortI_congr {l m : List Int} (h : l.Perm m) : isortI l = isortI m := isortI_uniq ((isortI_perm l).trans h) (isortI_sorted l)

/-- All differences of a later and an earlier one. -/
def P : List Int → List Int
  | [] => []
  | a :: t => t.map (fun x => x - a) ++ P t
theorem P_snoc : ∀ (l : List Int) (b : Int), (P (l ++ [b])).Perm (l.map (fun x => b - x) ++ P l)
  | [], b => by simp [P]
  | a :: t, b => by
    have ih := P_snoc t b
    simp only [List.cons_append, P, List.map_append, List.map_cons, List.map_nil, List.append_assoc]
    -- (t - a) ++ [b - a] ++ P (t ++ [b])  ~  (b - a) :: ((b - t) ++ ((t - a) ++ P t))
    have sw : ∀ X Y Z : List Int, (X ++ (Y ++ Z)).Perm (Y ++ (X ++ Z)) := fun X Y Z => by
      have := (List.perm_append_comm (l₁ := X) (l₂ := Y)).append_right Z
      simpa only [List.append_assoc] using this
    refine ((ih.append_left [b - a]).append_left _).trans ?_
    refine (sw _ [b - a] _).trans ?_
    exact (sw _ (t.map (fun x => b - x)) _).append_left [b - a]
theorem P_mirror (s : Int) : ∀ l : List Int, (P (l.reverse.map (fun x => s - x))).Perm (P l)
  | [] => by simp
  | a :: t => by
    rw [List.reverse_cons, List.map_append, List.map_cons, List.map_nil]
    refine (P_snoc _ _).trans ?_
    rw [List.map_map, P]
    refine List.Perm.append ?_ (P_mirror s t)
    have e : ((fun x => s - a - x) ∘ fun x => s - x) = fun x => x - a := by
      funext x
      simp only [Function.comp]
      omega
    rw [e, List.map_reverse]
    exact List.reverse_perm _
theorem P_shift (b : Int) : ∀ l : List Int, P (l.map (fun x => x + b)) = P l
  | [] => rfl
  | a :: t => by
    rw [List.map_cons, P, P_shift b t, P, List.map_map]
    congr 1
    apply List.map_congr_left
    intro x _
    simp only [Function.comp]
    omega
theorem P_scale (b : Int) : ∀ l : List Int, P (l.map (fun x => x * b)) = (P l).map (fun x => b * x)
  | [] => rfl
  | a :: t => by
    rw [List.map_cons, P, P_scale b t, P, List.map_append, List.map_map, List.map_map]
    congr 1
    apply List.map_congr_left
    intro x _
    simp only [Function.comp]
    rw [Int.mul_sub, Int.mul_comm x b, Int.mul_comm a b]

theorem at_append_left (l : List Int) (b : Int) (i : Nat) (h : i < l.length) : at_ (l ++ [b]) i = at_ l i := by
  rw [at_lt _ _ (by simp; omega), at_lt _ _ h, List.getElem_append_left h]
theorem at_append_last (l : List Int) (b : Int) : at_ (l ++ [b]) l.length = b := by
  rw [at_lt _ _ (by simp)]
  simp
theorem D_append (l : List Int) (b : Int) : ∀ m, m ≤ l.length → D (l ++ [b]) m = D l m
  | 0, _ => rfl
  | m + 1, h => by
    rw [D, D, D_append l b m (by omega)]
    congr 1
    apply List.map_congr_left
    intro j hj
    have := List.mem_range.1 hj
    unfold dif
    rw [at_append_left l b m (by omega), at_append_left l b j (by omega)]
theorem range_at (l : List Int) : (List.range l.length).map (fun j => at_ l j) = l := by
  apply List.ext_getElem
  · simp
  · intro i h1 h2
    simp only [List.getElem_map, List.getElem_range]
    exact at_lt l i h2
theorem D_snoc (l : List Int) (b : Int) : D (l ++ [b]) (l ++ [b]).length = D l l.length ++ l.map (fun x => b - x) := by
  rw [List.length_append, List.length_singleton, D, D_append l b _ (Nat.le_refl _)]
  congr 1
  have : (List.range l.length).map (dif (l ++ [b]) l.length) = (List.range l.length).map ((fun x => b - x) ∘ fun j => at_ l j) := by
    apply List.map_congr_left
    intro j hj
    have := List.mem_range.1 hj
    unfold dif
    rw [at_append_last, at_append_left l b j this]
    rfl
  rw [this, ← List.map_map, range_at]
theorem D_P (c : List Int) : (D c c.length).Perm (P c) := by
  have key : ∀ n (c : List Int), c.length = n → (D c c.length).Perm (P c) := by
    intro n
    induction n with
    | zero =>
      intro c h
      obtain rfl := List.length_eq_zero_iff.1 h
      exact .refl _
    | succ n ih =>
      intro c h
      have hne : c ≠ [] := fun e => by rw [e] at h; cases h
      obtain ⟨l, b, rfl⟩ : ∃ l b, c = l ++ [b] := ⟨c.dropLast, c.getLast hne, (List.dropLast_concat_getLast hne).symm⟩
      rw [D_snoc]
      refine List.Perm.trans ?_ (P_snoc l b).symm
      refine List.perm_append_comm.trans ?_
      exact (ih l (by simpa using h)).append_left _
  exact key c.length c rfl
/-- The delays by the pairs. -/
theorem dl_P (c : List Int) : dl c = isortI (P c) := isortI_congr (D_P c)
theorem dl_shift (c : List Int) (b : Int) : dl (c.map fun x => x + b) = dl c := by rw [dl_P, dl_P, P_shift]
theorem dl_mirror (c : List Int) (s : Int) : dl (c.reverse.map fun x => s - x) = dl c := by rw [dl_P, dl_P, isortI_congr (P_mirror s c)]
end Go.Proofs.Ytlbhedhbakhhlaa.Q

/- Moving, mirroring and the normal form, by the code and by the document. -/
namespace Go.Proofs.Ytlbhedhbakhhlaa.Q
open Go.RowKit Go.Proofs.YtlbhedhbakhhlaaW.PrintWords Go.Proofs.YtlbhedhbakhhlaaW.PrintLast Go.Proofs.YtlbhedhbakhhlaaW.PrintMore

theorem Small.mem {c : List Int} (h : Small c) {x : Int} (hx : x ∈ c) : -1000000 ≤ x ∧ x ≤ 1000000 := by
  obtain ⟨i, hi, rfl⟩ := List.mem_iff_getElem.1 hx
  have := h.at_ i
  rwa [at_lt c i hi] at this
theorem at_set (l : List Int) (i j : Nat) (x : Int) (h : i < l.length) : at_ (l.set i x) j = if j = i then x else at_ l j := at'_set h

theorem shift_l0 (c : List Int) (by_ : Int) (hc : c.length ≤ 1000) (hw : ∀ x ∈ c, wrap64 (x + by_) = x + by_) :
    ∀ m i, c.length - i = m → i ≤ c.length → Ev (fun k => echo_shift.l0 k by_ ((c.take i).map (fun x => x + by_) ++ c.drop i) (c.length : Int) (i : Int)) (c.map fun x => x + by_) := by
  intro m
  induction m with
  | zero =>
    intro i hm hi
    refine Ev.step (Ev.pure _) fun k => ?_
    rw [echo_shift.l0, if_neg (by omega), List.take_of_length_le (by omega), List.drop_of_length_le (by omega), List.append_nil]
  | succ m ih =>
    intro i hm hi
    have hlt : i < c.length := by omega
    refine Ev.step (ih (i + 1) (by omega) (by omega)) fun k => ?_
    have hl : ((c.take i).map (fun x => x + by_) ++ c.drop i).length = c.length := by simp; omega
    have hat : rd ((c.take i).map (fun x => x + by_) ++ c.drop i) (i : Int) = c[i] := by
      rw [rd_lt _ i (by omega), List.getElem_append_right (by simp; omega)]
      simp [Nat.min_eq_left hi]
    rw [echo_shift.l0, if_pos (by omega), if_pos (by omega), if_pos (by omega), hat, hw _ (List.getElem_mem hlt), wrap_succ (by omega), Int.toNat_natCast]
    congr 1
    have h1 : ((c.take i).map fun x => x + by_).length = i := by simp; omega
    rw [List.set_append_right _ _ (by omega), h1, Nat.sub_self, List.drop_eq_getElem_cons hlt, List.set_cons_zero, List.take_succ_eq_append_getElem hlt, List.map_append, List.append_assoc]
    rfl
theorem shift_ev (c : List Int) (by_ : Int) (hc : c.length ≤ 1000) (hw : ∀ x ∈ c, wrap64 (x + by_) = x + by_) : Ev (fun k => echo_shift.f k c by_) (c.map fun x => x + by_) := by
  unfold echo_shift.f slices_Clone_int_int.f
  rw [if_pos (by omega)]
  refine Ev.some_bind ?_
  have := shift_l0 c by_ hc hw c.length 0 (by omega) (by omega)
  simpa using this

/-- The mirror image. -/
def mir (c : List Int) : List Int := c.reverse.map fun x => at_ c 0 + at_ c (c.length - 1) - x
theorem mirrorW_mir {c : List Int} (h : Small c) (h0 : 0 < c.length) : mirrorW c = mir c := by
  unfold mirrorW mir
  apply List.map_congr_left
  intro x hx
  have h1 := h.mem (List.mem_reverse.1 hx)
  have h2 := h.at_ 0
  have h3 := h.at_ (c.length - 1)
  have := h.len
  have e1 : wrap64 (at_ c 0 + at_ c (c.length - 1)) = at_ c 0 + at_ c (c.length - 1) := wrap_of (by omega) (by omega)
  rw [wrap_pred (by omega) h0, rd_at, rd_zero, e1, wrap_of (by omega) (by omega)]
theorem mirror_f {c : List Int} (h : Small c) (h0 : 0 < c.length) : echo_mirror.f c = some (mir c) := by
  unfold echo_mirror.f
  rw [if_pos (by have := h.len; omega), mirrorW_mir h h0]
theorem mir_len (c : List Int) : (mir c).length = c.length := by simp [mir]
theorem mir_at {c : List Int} {i : Nat} (h : i < c.length) : at_ (mir c) i = at_ c 0 + at_ c (c.length - 1) - at_ c (c.length - 1 - i) := by
  rw [at_lt _ i (by rw [mir_len]; exact h)]
  unfold mir
  rw [List.getElem_map, List.getElem_reverse, ← at_lt c]
theorem ext_at {c d : List Int} (hl : c.length = d.length) (h : ∀ i, i < c.length → at_ c i = at_ d i) : c = d := by
  apply List.ext_getElem hl
  intro i h1 h2
  rw [← at_lt, ← at_lt]
  exact h i h1
theorem mir_mir {c : List Int} (h0 : 0 < c.length) : mir (mir c) = c := by
  refine ext_at (by rw [mir_len, mir_len]) fun i hi => ?_
  rw [mir_len, mir_len] at hi
  rw [mir_at (by rw [mir_len]; exact hi), mir_len, mir_at h0, mir_at (by omega), mir_at (by omega)]
  rw [show c.length - 1 - 0 = c.length - 1 by omega, show c.length - 1 - (c.length - 1) = 0 by omega, show c.length - 1 - (c.length - 1 - i) = i by omega]
  omega

theorem rmirror_l0 {c : List Int} (h : Small c) (h0 : 0 < c.length) : ∀ n, n ≤ c.length →
    Ev (fun k => diaphoneref05_mirror.l0 k c ((c.reverse.take (c.length - n)).map fun x => at_ c 0 + at_ c (c.length - 1) - x) ((n : Int) - 1)) (mir c) := by
  have hlen := h.len
  intro n
  induction n with
  | zero =>
    intro hn
    refine Ev.step (Ev.pure _) fun k => ?_
    rw [diaphoneref05_mirror.l0, if_neg (by omega), Nat.sub_zero, List.take_of_length_le (by simp)]
    rfl
  | succ n ih =>
    intro hn
    refine Ev.step (ih (by omega)) fun k => ?_
    have h2 := h.at_ 0
    have h3 := h.at_ (c.length - 1)
    have h4 := h.at_ n
    have e1 : (((n + 1 : Nat) : Int) - 1) = (n : Int) := by omega
    rw [e1, diaphoneref05_mirror.l0, if_pos (by omega), if_pos (by omega), wrap_pred (by omega) h0, if_pos (by omega), if_pos (by omega), if_pos (by omega), if_pos (by omega), if_pos (by simp; omega)]
    have e3 : wrap64 (at_ c 0 + at_ c (c.length - 1)) = at_ c 0 + at_ c (c.length - 1) := wrap_of (by omega) (by omega)
    rw [rd_at, rd_at, rd_zero, e3, wrap_of (by omega) (by omega), wrap_of (by omega) (by omega)]
    congr 1
    have e2 : c.length - n = (c.length - (n + 1)) + 1 := by omega
    rw [e2, List.take_succ_eq_append_getElem (by simp; omega), List.map_append, List.map_cons, List.map_nil, List.getElem_reverse]
    congr 2
    rw [at_lt c n (by omega)]
    congr 2
    omega
theorem rmirror_ev {c : List Int} (h : Small c) (h0 : 0 < c.length) : Ev (fun k => diaphoneref05_mirror.f k c) (mir c) := by
  unfold diaphoneref05_mirror.f
  have := rmirror_l0 h h0 c.length (Nat.le_refl _)
  rw [wrap_of (by have := h.len; omega) (by have := h.len; omega)]
  simpa using this

theorem before_l0 (x y : List Int) (hx : x.length ≤ 1000) (hl : x.length = y.length) :
    ∀ m i, x.length - i = m → i ≤ x.length → Ev (fun k => diaphoneref05_before.l0 k x y (i : Int)) (decide (lexI (x.drop i) (y.drop i) ≤ 0)) := by
  intro m
  induction m with
  | zero =>
    intro i hm hi
    rw [List.drop_of_length_le (by omega : x.length ≤ i), List.drop_of_length_le (by omega : y.length ≤ i)]
    refine Ev.step (Ev.pure _) fun k => ?_
    rw [diaphoneref05_before.l0, if_neg (by omega)]
    rfl
  | succ m ih =>
    intro i hm hi
    have hix : i < x.length := by omega
    have hiy : i < y.length := by omega
    rw [List.drop_eq_getElem_cons hix, List.drop_eq_getElem_cons hiy]
    by_cases he : x[i] = y[i]
    · have eL : lexI (x[i] :: x.drop (i + 1)) (y[i] :: y.drop (i + 1)) = lexI (x.drop (i + 1)) (y.drop (i + 1)) := by rw [lexI, if_neg (by omega), if_neg (by omega)]
      rw [eL]
      refine Ev.step (ih (i + 1) (by omega) (by omega)) fun k => ?_
      rw [diaphoneref05_before.l0, if_pos (by omega), if_pos (by omega), if_pos (by omega), rd_lt x i hix, rd_lt y i hiy, if_pos he, wrap_succ (by omega)]
    · have eL : lexI (x[i] :: x.drop (i + 1)) (y[i] :: y.drop (i + 1)) = if x[i] < y[i] then -1 else 1 := by
        rw [lexI]
        by_cases h1 : x[i] < y[i]
        · rw [if_pos h1, if_pos h1]
        · rw [if_neg h1, if_neg h1, if_pos (by omega)]
      rw [eL]
      refine Ev.step (Ev.pure _) fun k => ?_
      rw [diaphoneref05_before.l0, if_pos (by omega), if_pos (by omega), if_pos (by omega), rd_lt x i hix, rd_lt y i hiy, if_neg he]
      by_cases h1 : x[i] < y[i]
      · simp [h1]
      · simp [h1]
theorem before_ev (x y : List Int) (hx : x.length ≤ 1000) (hl : x.length = y.length) : Ev (fun k => diaphoneref05_before.f k x y) (decide (lexI x y ≤ 0)) := by
  unfold diaphoneref05_before.f
  have := before_l0 x y hx hl x.length 0 (by omega) (by omega)
  simpa using this

/-- Moved to 0. -/
def zero (c : List Int) : List Int := c.map fun x => x + -(at_ c 0)
/-- The normal form. -/
def nf (c : List Int) : List Int := if lexI (mir (zero c)) (zero c) < 0 then mir (zero c) else zero c
theorem zero_len (c : List Int) : (zero c).length = c.length := by simp [zero]
theorem map_at (c : List Int) (f : Int → Int) (i : Nat) (h : i < c.length) : at_ (c.map f) i = f (at_ c i) := by
  rw [at_lt _ i (by simpa using h), at_lt c i h]
  simp
theorem zero_at {c : List Int} {i : Nat} (h : i < c.length) : at_ (zero c) i = at_ c i - at_ c 0 := by
  unfold zero
  rw [map_at c _ i h]
  omega
theorem V.zero_small {c : List Int} (h : V c) : Small (zero c) where
  len := by rw [zero_len]; have := h.six; omega
  at_ := fun i => by
    by_cases hi : i < c.length
    · rw [zero_at hi]
      have := h.range hi
      have := h.range h.pos
      omega
    · rw [at_ge _ _ (by rw [zero_len]; omega)]; omega
theorem nf_len (c : List Int) : (nf c).length = c.length := by
  unfold nf
  split
  · rw [mir_len, zero_len]
  · rw [zero_len]
theorem normal_ev {c : List Int} (h : V c) : Ev (fun k => echo_normal.f k c) (nf c) := by
  have h6 := h.six
  have h0 := h.pos
  have hr := h.range h0
  unfold echo_normal.f
  simp only [if_pos (show (0 : Int) < (c.length : Int) by omega), rd_zero]
  rw [wrap_of (by omega) (by omega)]
  refine Ev.bind (shift_ev c _ (by omega) (fun x hx => ?_)) ?_
  · have := h.small.mem hx
    exact wrap_of (by omega) (by omega)
  · show Ev (fun k => (echo_mirror.f (zero c)).bind fun t105 => ((slices_Compare_int_int.f k t105 (zero c)).bind fun t108 => (if t108 < 0 then (some t105) else (some (zero c))))) _
    rw [mirror_f h.zero_small (by rw [zero_len]; exact h0)]
    refine Ev.some_bind ?_
    refine Ev.bind (Ev.of ((mir (zero c)).length + 1) (fun k hk => compare_ev _ _ (by rw [mir_len, zero_len]; omega) k (by omega))) ?_
    unfold nf
    by_cases hlt : lexI (mir (zero c)) (zero c) < 0
    · simp only [if_pos hlt]; exact Ev.pure _
    · simp only [if_neg hlt]; exact Ev.pure _
theorem rnormal_l0 {c : List Int} (h : V c) : ∀ m i, c.length - i = m → i ≤ c.length → Ev (fun k => diaphoneref05_normal.l0 k c ((zero c).take i) (i : Int)) (nf c) := by
  have h6 := h.six
  have h0 := h.pos
  have hzl := zero_len c
  intro m
  induction m with
  | zero =>
    intro i hm hi
    have : i = c.length := by omega
    subst this
    rw [List.take_of_length_le (by omega)]
    refine Ev.step (g := fun k => (diaphoneref05_mirror.f k (zero c)).bind fun t106 => ((diaphoneref05_before.f k (zero c) t106).bind fun t109 => (if t109 = true then (some (zero c)) else ((diaphoneref05_mirror.f k (zero c)).bind fun t110 => (some t110))))) ?_ fun k => ?_
    · refine Ev.bind (rmirror_ev h.zero_small (by omega)) ?_
      refine Ev.bind (before_ev _ _ (by omega) (by rw [mir_len])) ?_
      have ha := lexI_anti (mir (zero c)) (zero c)
      unfold nf
      by_cases hlt : lexI (mir (zero c)) (zero c) < 0
      · rw [if_pos hlt]
        simp only [decide_eq_true_eq, if_neg (show ¬ lexI (zero c) (mir (zero c)) ≤ 0 by omega)]
        exact Ev.bind (rmirror_ev h.zero_small (by omega)) (Ev.pure _)
      · rw [if_neg hlt]
        simp only [decide_eq_true_eq, if_pos (show lexI (zero c) (mir (zero c)) ≤ 0 by omega)]
        exact Ev.pure _
    · rw [diaphoneref05_normal.l0, if_neg (by omega)]
  | succ m ih =>
    intro i hm hi
    have hlt : i < c.length := by omega
    refine Ev.step (ih (i + 1) (by omega) (by omega)) fun k => ?_
    have hr := h.range hlt
    have hr0 := h.range h0
    rw [diaphoneref05_normal.l0, if_pos (by omega), if_pos (by omega), if_pos (by omega), if_pos (by simp; omega), rd_at, rd_zero, wrap_of (by omega) (by omega), wrap_succ (by omega)]
    congr 1
    rw [List.take_succ_eq_append_getElem (by omega), ← at_lt, zero_at hlt]
theorem rnormal_ev {c : List Int} (h : V c) : Ev (fun k => diaphoneref05_normal.f k c) (nf c) := by
  unfold diaphoneref05_normal.f
  have := rnormal_l0 h c.length 0 (by omega) (by omega)
  simpa using this

/-! ### Normal, Same, Alike -/
theorem Normal_ev (c : List Int) : Ev (fun k => echo_Normal.f k c) (if vErr c = 0 then nf c else [], vErr c) := by
  unfold echo_Normal.f
  refine Ev.bind (validate_ev c) ?_
  by_cases h : vErr c = 0
  · simp only [if_pos h]
    rw [h]
    exact Ev.bind (normal_ev (vErr_zero h)) (Ev.pure _)
  · simp only [if_neg h]
    exact Ev.pure _
theorem RNormal_ev (c : List Int) : Ev (fun k => diaphoneref05_Normal.f k c) (if vErr c = 0 then nf c else [], vErr c) := by
  unfold diaphoneref05_Normal.f
  refine Ev.bind (rvalidate_ev c) ?_
  by_cases h : vErr c = 0
  · simp only [if_pos h]
    rw [h]
    exact Ev.bind (rnormal_ev (vErr_zero h)) (Ev.pure _)
  · simp only [if_neg h]
    exact Ev.pure _
def bErr (c d : List Int) : Int := if vErr c = 0 then vErr d else vErr c
theorem bErr_zero {c d : List Int} (h : bErr c d = 0) : V c ∧ V d := by
  unfold bErr at h
  split at h
  · rename_i h1
    exact ⟨vErr_zero h1, vErr_zero h⟩
  · contradiction
theorem bErr_of {c d : List Int} (h : V c) (h' : V d) : bErr c d = 0 := by
  unfold bErr
  rw [if_pos (vErr_of h), vErr_of h']
theorem both_ev (c d : List Int) : Ev (fun k => echo_both.f k c d) (bErr c d) := by
  unfold echo_both.f bErr
  refine Ev.bind (validate_ev c) ?_
  by_cases h : vErr c = 0
  · simp only [if_pos h]
    exact Ev.bind (validate_ev d) (Ev.pure _)
  · simp only [if_neg h]
    exact Ev.pure _
theorem two_ev (c d : List Int) : Ev (fun k => diaphoneref05_two.f k c d) (bErr c d) := by
  unfold diaphoneref05_two.f bErr
  refine Ev.bind (rvalidate_ev c) ?_
  by_cases h : vErr c = 0
  · simp only [if_pos h]
    exact Ev.bind (rvalidate_ev d) (Ev.pure _)
  · simp only [if_neg h]
    exact Ev.pure _
theorem eq_ev (x y : List Int) (hx : x.length ≤ 1000000) : Ev (fun k => slices_Equal_int_int.f k x y) (decide (x = y)) := Ev.of (x.length + 1) (fun k hk => equal_ev x y (by omega) k (by omega))
theorem Same_ev (c d : List Int) : Ev (fun k => echo_Same.f k c d) (if bErr c d = 0 then decide (dl c = dl d) else false, bErr c d) := by
  unfold echo_Same.f
  refine Ev.bind (both_ev c d) ?_
  by_cases h : bErr c d = 0
  · simp only [if_pos h]
    rw [h]
    obtain ⟨h1, h2⟩ := bErr_zero h
    exact Ev.bind (delays_ev h1.small) (Ev.bind (delays_ev h2.small) (Ev.bind (eq_ev _ _ (dl_len h1.small)) (Ev.pure _)))
  · simp only [if_neg h]
    exact Ev.pure _
theorem RSame_ev (c d : List Int) : Ev (fun k => diaphoneref05_Same.f k c d) (if bErr c d = 0 then decide (dl c = dl d) else false, bErr c d) := by
  unfold diaphoneref05_Same.f
  refine Ev.bind (two_ev c d) ?_
  by_cases h : bErr c d = 0
  · simp only [if_pos h]
    rw [h]
    obtain ⟨h1, h2⟩ := bErr_zero h
    exact Ev.bind (rdelays_ev h1.small) (Ev.bind (rdelays_ev h2.small) (Ev.bind (same_ev _ _ (by have := dl_len h1.small; unfold dl at this; omega)) (Ev.pure _)))
  · simp only [if_neg h]
    exact Ev.pure _
theorem Alike_ev (c d : List Int) : Ev (fun k => echo_Alike.f k c d) (if bErr c d = 0 then decide (nf c = nf d) else false, bErr c d) := by
  unfold echo_Alike.f
  refine Ev.bind (both_ev c d) ?_
  by_cases h : bErr c d = 0
  · simp only [if_pos h]
    rw [h]
    obtain ⟨h1, h2⟩ := bErr_zero h
    exact Ev.bind (normal_ev h1) (Ev.bind (normal_ev h2) (Ev.bind (eq_ev _ _ (by rw [nf_len]; have := h1.six; omega)) (Ev.pure _)))
  · simp only [if_neg h]
    exact Ev.pure _
theorem RAlike_ev (c d : List Int) : Ev (fun k => diaphoneref05_Alike.f k c d) (if bErr c d = 0 then decide (nf c = nf d) else false, bErr c d) := by
  unfold diaphoneref05_Alike.f
  refine Ev.bind (two_ev c d) ?_
  by_cases h : bErr c d = 0
  · simp only [if_pos h]
    rw [h]
    obtain ⟨h1, h2⟩ := bErr_zero h
    exact Ev.bind (rnormal_ev h1) (Ev.bind (rnormal_ev h2) (Ev.bind (same_ev _ _ (by rw [nf_len]; have := h1.six; omega)) (Ev.pure _)))
  · simp only [if_neg h]
    exact Ev.pure _

/-! ### The delays of the normal form -/
theorem dl_zero (c : List Int) : dl (zero c) = dl c := dl_shift c _
theorem dl_mir (c : List Int) : dl (mir c) = dl c := dl_mirror c _
theorem dl_nf (c : List Int) : dl (nf c) = dl c := by
  unfold nf
  split
  · rw [dl_mir, dl_zero]
  · rw [dl_zero]
theorem alike_same {c d : List Int} (h : nf c = nf d) : dl c = dl d := by rw [← dl_nf c, h, dl_nf]
end Go.Proofs.Ytlbhedhbakhhlaa.Q

/- The chapter's examples hold. -/
namespace Go.Proofs.Ytlbhedhbakhhlaa.Q
open Go.RowKit Go.Proofs.YtlbhedhbakhhlaaW.PrintWords Go.Proofs.YtlbhedhbakhhlaaW.PrintLast Go.Proofs.YtlbhedhbakhhlaaW.PrintMore

theorem Ev.mono {α : Type} {f : Nat → Option α} {r : α} (hm : ∀ k, LeO (f k) (f (k + 1))) (K : Nat) (h : f K = some r) : Ev f r := by
  refine ⟨K, fun k hk => ?_⟩
  induction k with
  | zero => obtain rfl : K = 0 := by omega
            exact h
  | succ k ih =>
    by_cases e : K = k + 1
    · rw [← e]; exact h
    · exact hm k r (ih (by omega))
set_option maxRecDepth 100000 in
theorem sane_60 : diaphonelaw05_sane.f 60 = some true := by kernel_rfl
theorem sane_ev : Ev (fun k => diaphonelaw05_sane.f k) true := Ev.mono diaphonelaw05_sane.mono 60 sane_60
theorem sane_end : Ev (fun k => (diaphonelaw05_sane.f k).bind fun t => some t) true := Ev.bind sane_ev (Ev.pure _)
end Go.Proofs.Ytlbhedhbakhhlaa.Q

/- The plain law of EchoForms: normal forms, which cliffs are the same and which alike, by the code and by the document; alike ones are the same. -/
namespace Go.Proofs.Ytlbhedhbakhhlaa.Pure
open Go.RowKit Go.Proofs.Ytlbhedhbakhhlaa.Q

theorem EchoForms : diaphonelaw05_EchoForms.Pure := by
  intro c d _ _ _ _ _ _
  refine Ev.ex (r := true) ?_
  unfold diaphonelaw05_EchoForms.f long2.f
  refine Ev.some_bind ?_
  by_cases hl : (decide (100 < c.length) || decide (100 < d.length)) = true
  · simp only [if_pos hl]
    exact sane_end
  · simp only [if_neg hl]
    refine Ev.bind (Normal_ev c) ?_
    refine Ev.bind (RNormal_ev c) ?_
    refine Ev.bind (Same_ev c d) ?_
    refine Ev.bind (RSame_ev c d) ?_
    refine Ev.bind (Alike_ev c d) ?_
    refine Ev.bind (RAlike_ev c d) ?_
    have hs : (if vErr c = 0 then nf c else []).length < 9223372036854775807 := by
      split
      · rename_i h
        rw [nf_len]
        have := (vErr_zero h).six
        omega
      · simp
    refine Ev.bind (same_ev _ _ hs) ?_
    simp only [decide_true, if_true, beq_self_eq_true]
    by_cases h : bErr c d = 0
    · simp only [if_pos h]
      by_cases hn : nf c = nf d
      · simp only [decide_eq_true hn, if_true, decide_eq_true (alike_same hn)]
        exact sane_end
      · simp only [decide_eq_false hn, Bool.false_eq_true, if_false]
        exact sane_end
    · simp only [if_neg h, Bool.false_eq_true, if_false]
      exact sane_end
end Go.Proofs.Ytlbhedhbakhhlaa.Pure

namespace Go.Proofs.Ytlbhedhbakhhlaa.echoForms
open Go.ChangeShapes Go.WideShapes Go.ChangeAt Go.RowKit
open Go.ChangeMaps (open_string shut_string)
set_option linter.unusedVariables false
theorem own : ownKnob Try.prog.godebug = none := by kernel_rfl
theorem laidOut : laidOutB Try.prog = true := by kernel_rfl
def IsRow (k : IntKind) (w : World) (a : Option Addr) (len cap : Nat) (zs : List Int) : Prop :=
  (a = none ∧ len = 0 ∧ cap = 0 ∧ zs = []) ∨
  ∃ x, a = some x ∧ len ≤ cap ∧ cap ≤ maxLen ∧ zs.length = cap ∧ (∀ i, i < zs.length → w.cell? (x.add i) = some (.int k (zs.getD i 0))) ∧ ∀ n ∈ zs, (Lit.int k n).wf = true
set_option maxRecDepth 100000 in
theorem lifted (os : Os) (started : os.Started) (H : Type) (enc : TypeId × Value → H) :
    ReturnsInHanded {} Try.checked os 7 .any (Rows.echoFormsSpec.pre6 enc Try.prog Try.f7 Rows.echoFormsRow.domain false) (Rows.echoFormsSpec.post enc Try.prog Try.f7 false true false false) := by
  refine returnsInHanded_of_change_sized (C := Try.checked) own started (by kernel_rfl) Try.func7
    (ChangeSpec.witness6 (enc := enc) (C := Try.checked) false ⟨#[], #[.slice none 0 0, .slice none 0 0], []⟩ 8 (by kernel_rfl) (by kernel_rfl) (by kernel_rfl) (by kernel_rfl)) ?_
  intro W base args ds gs before hval0 hW hcnd hsz0 _
  have hsz : (DataW.weightsEach Try.prog (Try.f7.params.toList ++ Rows.echoFormsSpec.plain.varTypes Try.prog) (ds ++ gs)).all (· ≤ reachBytes) = true := hsz0
  have hval : ∀ (j : Nat) t v, Try.f7.params[j]? = some t → args[j]? = some v → Value.okWide Try.prog W .any base t v := hval0
  have hW' := hW
  obtain ⟨p, q, hA0, hV, rfl, hfz, hnd⟩ := hW
  have hA : DataW.TrodAll enc Try.prog W 0 (fun _ => true) true Try.f7.params.toList args.toList ds p := hA0
  rw [Try.params7] at hA hval hsz
  obtain ⟨v0, vs0, d0, ds0, p0, q0, hargs, rfl, rfl, h0, r0⟩ := trodAll_cons hA
  obtain ⟨v1, vs1, d1, ds1, p1, q1, rfl, rfl, rfl, h1, r1⟩ := trodAll_cons r0
  obtain ⟨rfl, rfl, rfl⟩ := trodAll_nil r1
  obtain rfl : args = #[v0, v1] := by cases args; simp_all
  obtain ⟨rfl, rfl⟩ := trodVars_none hV
  obtain ⟨a0, len0, cap0, rfl⟩ := okWide_slice Try.underlying22 (hval 0 22 v0 rfl rfl)
  have k0 := h0
  have lt0 : ∀ x ∈ p0, x.block < W.heap.size := by obtain ⟨m, hm⟩ := k0; exact DataW.trod_lt m _ _ _ hm
  obtain ⟨z0, w0⟩ : ∃ zs, IsRow .i64 W a0 len0 cap0 zs := by
    obtain ⟨fuel, hf⟩ := h0
    rcases open_ints Try.underlying22 Try.underlying3 (by kernel_rfl) hf with ⟨hcs, _⟩ | ⟨x, l, c, zs, hcs, _, hl, hm, hz, _, hcell, hwz⟩
    · simp [Value.cells] at hcs
      obtain ⟨rfl, rfl, rfl⟩ := hcs
      exact ⟨[], .inl ⟨rfl, rfl, rfl, rfl⟩⟩
    · simp [Value.cells] at hcs
      obtain ⟨rfl, rfl, rfl⟩ := hcs
      exact ⟨zs, .inr ⟨_, rfl, hl, hm, by simpa using hz, hcell, hwz⟩⟩
  have y0 : len0 * 8 ≤ 140737488351232 := Go.Proofs.YtlbhedhbakhhlaaW.PrintWords.sized_ints hsz (j := 0) (t := 22) rfl rfl Try.underlying22 Try.underlying3 (by kernel_rfl) (by kernel_rfl) h0
  obtain ⟨a1, len1, cap1, rfl⟩ := okWide_slice Try.underlying22 (hval 1 22 v1 rfl rfl)
  have k1 := h1
  have lt1 : ∀ x ∈ p1, x.block < W.heap.size := by obtain ⟨m, hm⟩ := k1; exact DataW.trod_lt m _ _ _ hm
  obtain ⟨z1, w1⟩ : ∃ zs, IsRow .i64 W a1 len1 cap1 zs := by
    obtain ⟨fuel, hf⟩ := h1
    rcases open_ints Try.underlying22 Try.underlying3 (by kernel_rfl) hf with ⟨hcs, _⟩ | ⟨x, l, c, zs, hcs, _, hl, hm, hz, _, hcell, hwz⟩
    · simp [Value.cells] at hcs
      obtain ⟨rfl, rfl, rfl⟩ := hcs
      exact ⟨[], .inl ⟨rfl, rfl, rfl, rfl⟩⟩
    · simp [Value.cells] at hcs
      obtain ⟨rfl, rfl, rfl⟩ := hcs
      exact ⟨zs, .inr ⟨_, rfl, hl, hm, by simpa using hz, hcell, hwz⟩⟩
  have y1 : len1 * 8 ≤ 140737488351232 := Go.Proofs.YtlbhedhbakhhlaaW.PrintWords.sized_ints hsz (j := 1) (t := 22) rfl rfl Try.underlying22 Try.underlying3 (by kernel_rfl) (by kernel_rfl) h1
  clear hA0 hval0 hsz0 hsz
  refine (Q.diaphonelaw05_EchoForms.walk Pure.EchoForms a0 len0 cap0 z0 a1 len1 cap1 z1 W w0 y0 w1 y1).mono fun e W' ⟨he, bel⟩ => ?_
  subst he
  exact ⟨_, rfl, _, _, _, [], _, [], hW', trodAll_mk1 (shut_bool Try.underlying4 _), (trodAll_cons_mk (Below.trod laidOut (by kernel_rfl) (of_decide_eq_true (by kernel_rfl)) k0 bel lt0) (trodAll_cons_mk (Below.trod laidOut (by kernel_rfl) (of_decide_eq_true (by kernel_rfl)) k1 bel lt1) trodAll_mk0)), rfl, bel.frame _, fun h => by cases h⟩
theorem over : Rows.echoFormsRow.holds Try.pinned (OpenSpec.ofChange Rows.echoFormsSpec) :=
  OpenClaim.holds_of_wide 7 Try.f7 rfl rfl rfl rfl rfl rfl rfl ⟨rfl, rfl, rfl, rfl, rfl⟩ rfl rfl rfl rfl rfl (by kernel_rfl) Try.func7 (by kernel_rfl)
    (of_decide_eq_true (by kernel_rfl)) (by unfold Func.isWrapper; first | (rw [if_pos (by decide +kernel)]; kernel_rfl) | (rw [if_neg (by decide +kernel)]; exact ⟨rfl, rfl⟩))
    (fun os started H enc _ => lifted os started H enc)
theorem proved : Rows.EchoFormsSaid := over
end Go.Proofs.Ytlbhedhbakhhlaa.echoForms
namespace Go.Proofs.Ytlbhedhbakhhlaa
/-- The row, under a short name, for the claim. -/
theorem echoForms_holds : Rows.EchoFormsSaid := echoForms.proved
end Go.Proofs.Ytlbhedhbakhhlaa

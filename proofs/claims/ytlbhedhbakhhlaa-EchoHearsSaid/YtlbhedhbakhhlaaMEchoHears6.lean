/- EchoHears: joined texts (6 of 6) of the proof that the given statement of this claim holds, for every input, without any condition of its own. -/
import Derived.Test.YtlbhedhbakhhlaaMEchoHears5
import Derived.Test.YtlbhedhbakhhlaaMEchoHears3
import Derived.Test.YtlbhedhbakhhlaaMEchoHears4
import Derived.KernelRfl
import Derived.Test.YtlbhedhbakhhlaaRows
import Derived.WalkKit
import Derived.ProofKit
import Derived.OpenShut
import Derived.ShutString
import Derived.ChangeOld
import Derived.Below
import Derived.SizedLaws
import Derived.Test.YtlbhedhbakhhlaaMEchoHears1
set_option linter.unusedVariables false
set_option linter.unusedSimpArgs false

/- The mirror image: right cliffs again, alike, with the same delays; by the code and by the document. -/
namespace Go.Proofs.Ytlbhedhbakhhlaa.Q
open Go.RowKit Go.Proofs.YtlbhedhbakhhlaaW.PrintWords Go.Proofs.YtlbhedhbakhhlaaW.PrintLast Go.Proofs.YtlbhedhbakhhlaaW.PrintMore

theorem V.le {c : List Int} (h : V c) {i j : Nat} (hij : i ≤ j) (hj : j < c.length) : at_ c i ≤ at_ c j := by
  by_cases e : i = j
  · subst e; omega
  · have := h.lt (i := i) (j := j) (by omega) hj
    omega
theorem V.of_lt {c : List Int} (h0 : 0 < c.length) (h6 : c.length ≤ 6) (hr : ∀ i, i < c.length → -60 ≤ at_ c i ∧ at_ c i ≤ 60) (hs : ∀ i, i + 1 < c.length → at_ c i < at_ c (i + 1)) (hp : at_ c (c.length - 1) - at_ c 0 ≤ 60) : V c := by
  refine ⟨h0, h6, fun i hi hb => ?_, hp⟩
  have h1 := hr i hi
  unfold badAt at hb
  by_cases e : 0 < i
  · have := hs (i - 1) (by omega)
    rw [show i - 1 + 1 = i by omega] at this
    omega
  · omega
theorem V.mir {c : List Int} (h : V c) : V (mir c) := by
  have h0 := h.pos
  have h6 := h.six
  refine V.of_lt (by rw [mir_len]; exact h0) (by rw [mir_len]; exact h6) (fun i hi => ?_) (fun i hi => ?_) ?_
  · rw [mir_len] at hi
    rw [mir_at hi]
    have a := h.le (i := 0) (j := c.length - 1 - i) (by omega) (by omega)
    have b := h.le (i := c.length - 1 - i) (j := c.length - 1) (by omega) (by omega)
    have d := h.range h0
    have e := h.range (i := c.length - 1) (by omega)
    omega
  · rw [mir_len] at hi
    rw [mir_at (by omega), mir_at hi]
    have := h.lt (i := c.length - 1 - (i + 1)) (j := c.length - 1 - i) (by omega) (by omega)
    omega
  · rw [mir_len, mir_at (by omega), mir_at h0, show c.length - 1 - 0 = c.length - 1 by omega, show c.length - 1 - (c.length - 1) = 0 by omega]
    have := h.span
    omega
theorem Mirror_ev (c : List Int) : Ev (fun k => echo_Mirror.f k c) (if vErr c = 0 then mir c else [], vErr c) := by
  unfold echo_Mirror.f
  refine Ev.bind (validate_ev c) ?_
  by_cases h : vErr c = 0
  · simp only [if_pos h]
    rw [h, mirror_f (vErr_zero h).small (vErr_zero h).pos]
    exact Ev.pure _
  · simp only [if_neg h]
    exact Ev.pure _
theorem RMirror_ev (c : List Int) : Ev (fun k => diaphoneref05_Mirror.f k c) (if vErr c = 0 then mir c else [], vErr c) := by
  unfold diaphoneref05_Mirror.f
  refine Ev.bind (rvalidate_ev c) ?_
  by_cases h : vErr c = 0
  · simp only [if_pos h]
    rw [h]
    exact Ev.bind (rmirror_ev (vErr_zero h).small (vErr_zero h).pos) (Ev.pure _)
  · simp only [if_neg h]
    exact Ev.pure _
theorem mir_zero {c : List Int} (h0 : 0 < c.length) : zero (mir c) = mir (zero c) := by
  refine ext_at (by rw [zero_len, mir_len, mir_len, zero_len]) fun i hi => ?_
  rw [zero_len, mir_len] at hi
  rw [zero_at (by rw [mir_len]; exact hi), mir_at hi, mir_at h0, mir_at (by rw [zero_len]; exact hi), zero_len, zero_at h0, zero_at (by omega), zero_at (by omega), show c.length - 1 - 0 = c.length - 1 by omega]
  omega
theorem nf_mir {c : List Int} (h0 : 0 < c.length) : nf (mir c) = nf c := by
  have hz : 0 < (zero c).length := by rw [zero_len]; exact h0
  unfold nf
  rw [mir_zero h0, mir_mir hz]
  have ha := lexI_anti (mir (zero c)) (zero c)
  by_cases h1 : lexI (zero c) (mir (zero c)) < 0
  · rw [if_pos h1, if_neg (by omega)]
  · rw [if_neg h1]
    by_cases h2 : lexI (mir (zero c)) (zero c) < 0
    · rw [if_pos h2]
    · rw [if_neg h2]
      exact lexI_zero _ _ (by omega)
end Go.Proofs.Ytlbhedhbakhhlaa.Q

/- Twice the distances from a ship, by the code and by the document. -/
namespace Go.Proofs.Ytlbhedhbakhhlaa.Q
open Go.RowKit Go.Proofs.YtlbhedhbakhhlaaW.PrintWords Go.Proofs.YtlbhedhbakhhlaaW.PrintLast Go.Proofs.YtlbhedhbakhhlaaW.PrintMore

def far2 (s x : Int) : Int := 2 * mx (x - s) (s - x)
theorem far2_wrap {s x : Int} (hs : -1000 ≤ s ∧ s ≤ 1000) (hx : -1000000 ≤ x ∧ x ≤ 1000000) : wrap64 (2 * mx (wrap64 (x - s)) (wrap64 (s - x))) = far2 s x := by
  rw [wrap_of (show -9223372036854775808 ≤ x - s by omega) (by omega), wrap_of (show -9223372036854775808 ≤ s - x by omega) (by omega)]
  unfold far2 mx
  split <;> exact wrap_of (by omega) (by omega)
/-- What is heard at s. -/
def hd (c : List Int) (s : Int) : List Int := isortI (c.map (far2 s))
def hErr (c : List Int) (s : Int) : Int := if vErr c = 0 then (if -1000 ≤ s ∧ s ≤ 1000 then 0 else 1) else vErr c
theorem hd_len (c : List Int) (s : Int) : (hd c s).length = c.length := by
  unfold hd
  rw [(isortI_perm _).length_eq, List.length_map]
theorem map_take_succ (c : List Int) (f : Int → Int) (i : Nat) (h : i < c.length) : (c.take i).map f ++ [f (at_ c i)] = (c.take (i + 1)).map f := by
  rw [List.take_succ_eq_append_getElem h, List.map_append, at_lt c i h]
  rfl
theorem heard_l0 {c : List Int} {s : Int} (h : V c) (hs : -1000 ≤ s ∧ s ≤ 1000) : ∀ m i, c.length - i = m → i ≤ c.length → Ev (fun k => echo_Heard.l0 k s ((c.take i).map (far2 s)) c (c.length : Int) (i : Int)) (hd c s, 0) := by
  have h6 := h.six
  intro m
  induction m with
  | zero =>
    intro i hm hi
    rw [List.take_of_length_le (by omega)]
    refine Ev.step (Ev.pure _) fun k => ?_
    rw [echo_Heard.l0, if_neg (by omega), sort_ev _ (by simp; omega)]
    rfl
  | succ m ih =>
    intro i hm hi
    have hlt : i < c.length := by omega
    have hr := h.range hlt
    refine Ev.step (ih (i + 1) (by omega) (by omega)) fun k => ?_
    rw [echo_Heard.l0, if_pos (by omega), if_pos (by omega), if_pos (by omega), if_pos (by simp; omega), rd_at, far2_wrap hs (by omega), wrap_succ (by omega), map_take_succ c _ i hlt]
theorem Heard_ev (c : List Int) (s : Int) : Ev (fun k => echo_Heard.f k c s) (if hErr c s = 0 then hd c s else [], hErr c s) := by
  unfold echo_Heard.f hErr
  refine Ev.bind (validate_ev c) ?_
  by_cases h : vErr c = 0
  · simp only [if_pos h]
    rw [within_echo]
    refine Ev.some_bind ?_
    by_cases hs : -1000 ≤ s ∧ s ≤ 1000
    · simp only [decide_eq_true hs, if_true, if_pos hs]
      have := heard_l0 (vErr_zero h) hs c.length 0 (by omega) (by omega)
      simpa using this
    · simp only [decide_eq_false hs, Bool.false_eq_true, if_false, if_neg hs]
      exact Ev.pure _
  · simp only [if_neg h]
    exact Ev.pure _
theorem rheard_l0 {c : List Int} {s : Int} (h : V c) (hs : -1000 ≤ s ∧ s ≤ 1000) : ∀ m i, c.length - i = m → i ≤ c.length → Ev (fun k => diaphoneref05_Heard.l0 k c s ((c.take i).map (far2 s)) (i : Int)) (hd c s, 0) := by
  have h6 := h.six
  intro m
  induction m with
  | zero =>
    intro i hm hi
    rw [List.take_of_length_le (by omega)]
    refine Ev.step (g := fun k => (diaphoneref05_sorted.f k (c.map (far2 s))).bind fun t108 => (some (t108, 0))) (Ev.bind (sorted_ev (c.map (far2 s)) (by simp; omega)) (Ev.pure _)) fun k => ?_
    rw [diaphoneref05_Heard.l0, if_neg (by omega)]
  | succ m ih =>
    intro i hm hi
    have hlt : i < c.length := by omega
    have hr := h.range hlt
    refine Ev.step (ih (i + 1) (by omega) (by omega)) fun k => ?_
    rw [diaphoneref05_Heard.l0, if_pos (by omega), if_pos (by omega), if_pos (by simp; omega), rd_at, far2_wrap hs (by omega), wrap_succ (by omega), map_take_succ c _ i hlt]
theorem RHeard_ev (c : List Int) (s : Int) : Ev (fun k => diaphoneref05_Heard.f k c s) (if hErr c s = 0 then hd c s else [], hErr c s) := by
  unfold diaphoneref05_Heard.f hErr
  refine Ev.bind (rvalidate_ev c) ?_
  by_cases h : vErr c = 0
  · simp only [if_pos h]
    rw [within_ref]
    refine Ev.some_bind ?_
    by_cases hs : -1000 ≤ s ∧ s ≤ 1000
    · simp only [decide_eq_true hs, if_true, if_pos hs]
      have := rheard_l0 (vErr_zero h) hs c.length 0 (by omega) (by omega)
      simpa using this
    · simp only [decide_eq_false hs, Bool.false_eq_true, if_false, if_neg hs]
      exact Ev.pure _
  · simp only [if_neg h]
    exact Ev.pure _
theorem mx_comm (a b : Int) : mx a b = mx b a := by
  unfold mx
  split <;> split <;> omega
theorem hd_mir {c : List Int} (s : Int) : hd (mir c) (at_ c 0 + at_ c (c.length - 1) - s) = hd c s := by
  unfold hd
  apply isortI_congr
  unfold mir
  rw [List.map_map, List.map_reverse]
  refine (List.reverse_perm _).trans ?_
  have e : (far2 (at_ c 0 + at_ c (c.length - 1) - s) ∘ fun x => at_ c 0 + at_ c (c.length - 1) - x) = far2 s := by
    funext x
    simp only [Function.comp, far2]
    rw [mx_comm]
    congr 2 <;> omega
  rw [e]
end Go.Proofs.Ytlbhedhbakhhlaa.Q

/- The chapter's examples hold. -/
namespace Go.Proofs.Ytlbhedhbakhhlaa.Q
open Go.RowKit Go.Proofs.YtlbhedhbakhhlaaW.PrintWords Go.Proofs.YtlbhedhbakhhlaaW.PrintLast Go.Proofs.YtlbhedhbakhhlaaW.PrintMore

theorem Ev.mono {α : Type} {f : Nat → Option α} {r : α} (hm : ∀ k, LeO (f k) (f (k + 1))) (K : Nat) (h : f K = some r) : Ev f r := by
  refine ⟨K, fun k hk => ?_⟩
  induction k with
  | zero => obtain rfl : K = 0 := by omega
            exact h
  | succ k ih =>
    by_cases e : K = k + 1
    · rw [← e]; exact h
    · exact hm k r (ih (by omega))
set_option maxRecDepth 100000 in
theorem sane_60 : diaphonelaw05_sane.f 60 = some true := by kernel_rfl
theorem sane_ev : Ev (fun k => diaphonelaw05_sane.f k) true := Ev.mono diaphonelaw05_sane.mono 60 sane_60
theorem sane_end : Ev (fun k => (diaphonelaw05_sane.f k).bind fun t => some t) true := Ev.bind sane_ev (Ev.pure _)
end Go.Proofs.Ytlbhedhbakhhlaa.Q

/- The plain law of EchoHears: how far the cliffs are from a ship, by the code and by the document; from the mirrored place the mirrored cliffs are as far. -/
namespace Go.Proofs.Ytlbhedhbakhhlaa.Pure
open Go.RowKit Go.Proofs.Ytlbhedhbakhhlaa.Q

theorem EchoHears : diaphonelaw05_EchoHears.Pure := by
  intro c s _ _ _ _
  refine Ev.ex (r := true) ?_
  unfold diaphonelaw05_EchoHears.f long1.f
  refine Ev.some_bind ?_
  by_cases hl : 100 < c.length
  · simp only [decide_eq_true hl, if_true]
    exact sane_end
  · simp only [decide_eq_false hl, Bool.false_eq_true, if_false]
    refine Ev.bind (Heard_ev c s) ?_
    refine Ev.bind (RHeard_ev c s) ?_
    have hs : (if hErr c s = 0 then hd c s else []).length < 9223372036854775807 := by
      split
      · rw [hd_len]; omega
      · simp
    refine Ev.bind (same_ev _ _ hs) ?_
    simp only [decide_true, if_true]
    refine Ev.step (g := fun k => (if (hErr c s != hErr c s) = true then (some false) else (if hErr c s = 0 then ((echo_Mirror.f k c).bind fun bt113 => (if 0 < (c.length : Int) then (if 0 ≤ (wrap64 ((c.length : Int) - 1)) then (if (wrap64 ((c.length : Int) - 1)) < (c.length : Int) then ((echo_Heard.f k bt113.1 (wrap64 ((wrap64 ((YtlbhedhbakhhlaaW.PrintWords.rd c 0) + (YtlbhedhbakhhlaaW.PrintWords.rd c (wrap64 ((c.length : Int) - 1))))) - s))).bind fun bt119 => (if bt113.2 = 0 then (if bt119.2 = 1 then ((diaphonelaw05_sane.f k).bind fun t123 => (some t123)) else (if bt119.2 = 0 then ((diaphoneref05_SameInts.f k bt119.1 (if hErr c s = 0 then hd c s else [])).bind fun t124 => (if t124 = true then ((diaphonelaw05_sane.f k).bind fun t125 => (some t125)) else (some false))) else (some false))) else (some false))) else (none)) else (none)) else (none))) else ((diaphonelaw05_sane.f k).bind fun t112 => (some t112))))) ?_ fun k => by rw [diaphonelaw05_EchoHears.j0]
    simp only [bne_self_eq_false, Bool.false_eq_true, if_false]
    by_cases h : hErr c s = 0
    · have hv : V c := by
        by_cases h1 : vErr c = 0
        · exact vErr_zero h1
        · unfold hErr at h; rw [if_neg h1] at h; exact absurd h h1
      have hr : -1000 ≤ s ∧ s ≤ 1000 := by
        unfold hErr at h
        rw [if_pos (vErr_of hv)] at h
        split at h
        · assumption
        · cases h
      have h0 := hv.pos
      have h6 := hv.six
      have ha := hv.range h0
      have hb := hv.range (i := c.length - 1) (by omega)
      simp only [if_pos h]
      refine Ev.bind (Mirror_ev c) ?_
      have e1 : wrap64 (at_ c 0 + at_ c (c.length - 1)) = at_ c 0 + at_ c (c.length - 1) := wrap_of (by omega) (by omega)
      simp only [vErr_of hv, if_true, if_pos (show (0 : Int) < (c.length : Int) by omega), wrap_pred (show c.length ≤ 9223372036854775807 by omega) h0, if_pos (show (0 : Int) ≤ ((c.length - 1 : Nat) : Int) by omega), if_pos (show ((c.length - 1 : Nat) : Int) < (c.length : Int) by omega), rd_at, rd_zero, e1]
      rw [wrap_of (show -9223372036854775808 ≤ at_ c 0 + at_ c (c.length - 1) - s by omega) (by omega)]
      refine Ev.bind (Heard_ev (mir c) _) ?_
      have hm := hv.mir
      by_cases ht : -1000 ≤ at_ c 0 + at_ c (c.length - 1) - s ∧ at_ c 0 + at_ c (c.length - 1) - s ≤ 1000
      · have e2 : hErr (mir c) (at_ c 0 + at_ c (c.length - 1) - s) = 0 := by unfold hErr; rw [if_pos (vErr_of hm), if_pos ht]
        simp only [e2, if_true, hd_mir]
        simp only [show ¬ ((0 : Int) = 1) by decide, if_false]
        refine Ev.bind (same_ev _ _ (by rw [hd_len]; omega)) ?_
        simp only [decide_true, if_true]
        exact sane_end
      · have e2 : hErr (mir c) (at_ c 0 + at_ c (c.length - 1) - s) = 1 := by unfold hErr; rw [if_pos (vErr_of hm), if_neg ht]
        simp only [e2, if_true]
        exact sane_end
    · simp only [if_neg h]
      exact sane_end
end Go.Proofs.Ytlbhedhbakhhlaa.Pure

namespace Go.Proofs.Ytlbhedhbakhhlaa.echoHears
open Go.ChangeShapes Go.WideShapes Go.ChangeAt Go.RowKit
open Go.ChangeMaps (open_string shut_string)
set_option linter.unusedVariables false
theorem own : ownKnob Try.prog.godebug = none := by kernel_rfl
theorem laidOut : laidOutB Try.prog = true := by kernel_rfl
def IsRow (k : IntKind) (w : World) (a : Option Addr) (len cap : Nat) (zs : List Int) : Prop :=
  (a = none ∧ len = 0 ∧ cap = 0 ∧ zs = []) ∨
  ∃ x, a = some x ∧ len ≤ cap ∧ cap ≤ maxLen ∧ zs.length = cap ∧ (∀ i, i < zs.length → w.cell? (x.add i) = some (.int k (zs.getD i 0))) ∧ ∀ n ∈ zs, (Lit.int k n).wf = true
set_option maxRecDepth 100000 in
theorem lifted (os : Os) (started : os.Started) (H : Type) (enc : TypeId × Value → H) :
    ReturnsInHanded {} Try.checked os 10 .any (Rows.echoHearsSpec.pre6 enc Try.prog Try.f10 Rows.echoHearsRow.domain false) (Rows.echoHearsSpec.post enc Try.prog Try.f10 false true false false) := by
  refine returnsInHanded_of_change_sized (C := Try.checked) own started (by kernel_rfl) Try.func10
    (ChangeSpec.witness6 (enc := enc) (C := Try.checked) false ⟨#[], #[.slice none 0 0, .int .i64 0], []⟩ 8 (by kernel_rfl) (by kernel_rfl) (by kernel_rfl) (by kernel_rfl)) ?_
  intro W base args ds gs before hval0 hW hcnd hsz0 _
  have hsz : (DataW.weightsEach Try.prog (Try.f10.params.toList ++ Rows.echoHearsSpec.plain.varTypes Try.prog) (ds ++ gs)).all (· ≤ reachBytes) = true := hsz0
  have hval : ∀ (j : Nat) t v, Try.f10.params[j]? = some t → args[j]? = some v → Value.okWide Try.prog W .any base t v := hval0
  have hW' := hW
  obtain ⟨p, q, hA0, hV, rfl, hfz, hnd⟩ := hW
  have hA : DataW.TrodAll enc Try.prog W 0 (fun _ => true) true Try.f10.params.toList args.toList ds p := hA0
  rw [Try.params10] at hA hval hsz
  obtain ⟨v0, vs0, d0, ds0, p0, q0, hargs, rfl, rfl, h0, r0⟩ := trodAll_cons hA
  obtain ⟨v1, vs1, d1, ds1, p1, q1, rfl, rfl, rfl, h1, r1⟩ := trodAll_cons r0
  obtain ⟨rfl, rfl, rfl⟩ := trodAll_nil r1
  obtain rfl : args = #[v0, v1] := by cases args; simp_all
  obtain ⟨rfl, rfl⟩ := trodVars_none hV
  obtain ⟨a0, len0, cap0, rfl⟩ := okWide_slice Try.underlying22 (hval 0 22 v0 rfl rfl)
  have k0 := h0
  have lt0 : ∀ x ∈ p0, x.block < W.heap.size := by obtain ⟨m, hm⟩ := k0; exact DataW.trod_lt m _ _ _ hm
  obtain ⟨z0, w0⟩ : ∃ zs, IsRow .i64 W a0 len0 cap0 zs := by
    obtain ⟨fuel, hf⟩ := h0
    rcases open_ints Try.underlying22 Try.underlying3 (by kernel_rfl) hf with ⟨hcs, _⟩ | ⟨x, l, c, zs, hcs, _, hl, hm, hz, _, hcell, hwz⟩
    · simp [Value.cells] at hcs
      obtain ⟨rfl, rfl, rfl⟩ := hcs
      exact ⟨[], .inl ⟨rfl, rfl, rfl, rfl⟩⟩
    · simp [Value.cells] at hcs
      obtain ⟨rfl, rfl, rfl⟩ := hcs
      exact ⟨zs, .inr ⟨_, rfl, hl, hm, by simpa using hz, hcell, hwz⟩⟩
  have y0 : len0 * 8 ≤ 140737488351232 := Go.Proofs.YtlbhedhbakhhlaaW.PrintWords.sized_ints hsz (j := 0) (t := 22) rfl rfl Try.underlying22 Try.underlying3 (by kernel_rfl) (by kernel_rfl) h0
  obtain ⟨a1, rfl, rfl, rfl, w1⟩ := open_int Try.underlying3 (hval 1 3 v1 rfl rfl) h1
  clear hA0 hval0 hsz0 hsz
  refine (Q.diaphonelaw05_EchoHears.walk Pure.EchoHears a0 len0 cap0 z0 a1 W w0 y0 w1).mono fun e W' ⟨he, bel⟩ => ?_
  subst he
  exact ⟨_, rfl, _, _, _, [], _, [], hW', trodAll_mk1 (shut_bool Try.underlying4 _), (trodAll_cons_mk (Below.trod laidOut (by kernel_rfl) (of_decide_eq_true (by kernel_rfl)) k0 bel lt0) (trodAll_cons_mk (shut_int Try.underlying3 w1) trodAll_mk0)), rfl, bel.frame _, fun h => by cases h⟩
theorem over : Rows.echoHearsRow.holds Try.pinned (OpenSpec.ofChange Rows.echoHearsSpec) :=
  OpenClaim.holds_of_wide 10 Try.f10 rfl rfl rfl rfl rfl rfl rfl ⟨rfl, rfl, rfl, rfl, rfl⟩ rfl rfl rfl rfl rfl (by kernel_rfl) Try.func10 (by kernel_rfl)
    (of_decide_eq_true (by kernel_rfl)) (by unfold Func.isWrapper; first | (rw [if_pos (by decide +kernel)]; kernel_rfl) | (rw [if_neg (by decide +kernel)]; exact ⟨rfl, rfl⟩))
    (fun os started H enc _ => lifted os started H enc)
theorem proved : Rows.EchoHearsSaid := over
end Go.Proofs.Ytlbhedhbakhhlaa.echoHears
namespace Go.Proofs.Ytlbhedhbakhhlaa
/-- The row, under a short name, for the claim. -/
theorem echoHears_holds : Rows.EchoHearsSaid := echoHears.proved
end Go.Proofs.Ytlbhedhbakhhlaa

/- EchoScales: joined texts (6 of 6) of the proof that the given statement of this claim holds, for every input, without any condition of its own. -/
import Derived.Test.YtlbhedhbakhhlaaMEchoScales5
import Derived.Test.YtlbhedhbakhhlaaRows
import Derived.WalkKit
import Derived.ProofKit
import Derived.OpenShut
import Derived.ShutString
import Derived.ChangeOld
import Derived.Below
import Derived.SizedLaws
import Derived.Test.YtlbhedhbakhhlaaMEchoScales1
set_option linter.unusedVariables false
set_option linter.unusedSimpArgs false

/- The plain law of EchoScales: cliffs so many times as far apart, by the code and by the document; the delays are so many times as great. -/
namespace Go.Proofs.Ytlbhedhbakhhlaa.Pure
open Go.RowKit Go.Proofs.Ytlbhedhbakhhlaa.Q

def times (c : List Int) (b : Int) : List Int := c.map fun x => x * b
theorem times_len (c : List Int) (b : Int) : (times c b).length = c.length := by simp [times]
/-- The one cliff at 0. -/
def One0 (c : List Int) : Prop := c.length = 1 ∧ at_ c 0 = 0
instance (c : List Int) : Decidable (One0 c) := inferInstanceAs (Decidable (_ ∧ _))
def scR (c : List Int) (b : Int) : List Int × Int :=
  if vErr c = 0 then (if b < 1 then ([], 1) else if One0 c then ([0], 0) else if 60 < b then ([], 1) else if vErr (times c b) = 0 then (times c b, 0) else ([], 1)) else ([], vErr c)
theorem one0 {c : List Int} (h : One0 c) : c = [0] := by
  obtain ⟨h1, h2⟩ := h
  match c, h1 with
  | [x], _ =>
    have : x = 0 := h2
    rw [this]
theorem mul_wrap {x b : Int} (hx : -60 ≤ x ∧ x ≤ 60) (hb : 1 ≤ b) (hb' : b ≤ 60) : wrap64 (x * b) = x * b := by
  have h1 : x * b ≤ 60 * 60 := by
    have := Int.mul_le_mul_of_nonneg_right (show x ≤ 60 from hx.2) (show 0 ≤ b by omega)
    omega
  have h2 : -(60 * 60) ≤ x * b := by
    have := Int.mul_le_mul_of_nonneg_right (show -60 ≤ x from hx.1) (show 0 ≤ b by omega)
    omega
  exact wrap_of (by omega) (by omega)
theorem vErr_one0 : vErr [0] = 0 := by decide

/-- Behind the document's loop, and the code's. -/
def fin (m : List Int) : List Int × Int := if vErr m = 0 then (m, 0) else ([], 1)

theorem scale_small {c : List Int} {b : Int} (h : V c) (hb : 1 ≤ b) (hb' : b ≤ 60) : ∀ m i, c.length - i = m → i ≤ c.length →
    Ev (fun k => echo_Scale.l0 k b ((c.take i).map (fun x => x * b) ++ c.drop i) (c.length : Int) (i : Int)) (fin (times c b)) := by
  have h6 := h.six
  intro m
  induction m with
  | zero =>
    intro i hm hi
    rw [List.take_of_length_le (by omega), List.drop_of_length_le (by omega), List.append_nil]
    refine Ev.step (g := fun k => (echo_Validate.f k (times c b)).bind fun t105 => (if t105 = 0 then (some (times c b, 0)) else (some (([] : List Int), 1)))) ?_ fun k => ?_
    · refine Ev.bind (validate_ev _) ?_
      unfold fin
      by_cases hz : vErr (times c b) = 0
      · simp only [if_pos hz]; exact Ev.pure _
      · simp only [if_neg hz]; exact Ev.pure _
    · rw [echo_Scale.l0, if_neg (by omega)]
      rfl
  | succ m ih =>
    intro i hm hi
    have hlt : i < c.length := by omega
    have hr := h.range hlt
    have hl : ((c.take i).map (fun x => x * b) ++ c.drop i).length = c.length := by simp; omega
    have h1 : ((c.take i).map fun x => x * b).length = i := by simp; omega
    have hat : YtlbhedhbakhhlaaW.PrintWords.rd ((c.take i).map (fun x => x * b) ++ c.drop i) (i : Int) = at_ c i := by
      rw [rd_lt _ i (by omega), List.getElem_append_right (by omega), at_lt c i hlt]
      simp [h1, Nat.min_eq_left hi]
    have hset : (((c.take i).map (fun x => x * b) ++ c.drop i).set i (at_ c i * b)) = (c.take (i + 1)).map (fun x => x * b) ++ c.drop (i + 1) := by
      rw [List.set_append_right _ _ (by omega), h1, Nat.sub_self, List.drop_eq_getElem_cons hlt, List.set_cons_zero, List.take_succ_eq_append_getElem hlt, List.map_append, List.append_assoc, at_lt c i hlt]
      rfl
    have hnx := ih (i + 1) (by omega) (by omega)
    by_cases hz : at_ c i = 0
    · have hsame : ((c.take i).map (fun x => x * b) ++ c.drop i) = (c.take (i + 1)).map (fun x => x * b) ++ c.drop (i + 1) := by
        rw [← hset, hz, Int.zero_mul]
        refine ext_at (by simp) fun j hj => ?_
        rw [at_set _ _ _ _ (by omega)]
        split
        · rename_i e
          subst e
          show YtlbhedhbakhhlaaW.PrintWords.rd _ (j : Int) = 0
          rw [hat, hz]
        · rfl
      rw [← hsame] at hnx
      refine Ev.step (g := fun k => echo_Scale.j1 k b ((c.take i).map (fun x => x * b) ++ c.drop i) (i : Int) 0 (c.length : Int) (i : Int) false) (Ev.step hnx fun k => ?_) fun k => ?_
      · rw [echo_Scale.j1, if_neg (by decide), if_pos rfl, wrap_succ (by omega)]
      · rw [echo_Scale.l0, if_pos (by omega), if_pos (by omega), if_pos (by omega), hat, if_pos hz, hz]
    · refine Ev.step (g := fun k => echo_Scale.j1 k b ((c.take i).map (fun x => x * b) ++ c.drop i) (i : Int) (at_ c i) (c.length : Int) (i : Int) (decide (b > 60))) (Ev.step hnx fun k => ?_) fun k => ?_
      · rw [echo_Scale.j1, if_neg (by simp; omega), if_neg hz, if_pos (by omega), if_pos (by omega), hat, mul_wrap hr hb hb', wrap_succ (by omega), Int.toNat_natCast, hset]
      · rw [echo_Scale.l0, if_pos (by omega), if_pos (by omega), if_pos (by omega), hat, if_neg hz]
theorem scale_big {c : List Int} {b : Int} (h : V c) (hb : 60 < b) (h1 : ¬ One0 c) : ∀ m i, c.length - i = m → i ≤ c.length → (∀ j, j < i → at_ c j = 0) →
    Ev (fun k => echo_Scale.l0 k b c (c.length : Int) (i : Int)) (([] : List Int), (1 : Int)) := by
  have h6 := h.six
  have h0 := h.pos
  intro m
  induction m with
  | zero =>
    intro i hm hi hj
    exfalso
    apply h1
    refine ⟨?_, hj 0 (by omega)⟩
    by_cases e : c.length = 1
    · exact e
    · have := h.lt (i := 0) (j := 1) (by omega) (by omega)
      have := hj 0 (by omega)
      have := hj 1 (by omega)
      omega
  | succ m ih =>
    intro i hm hi hj
    have hlt : i < c.length := by omega
    by_cases hz : at_ c i = 0
    · refine Ev.step (g := fun k => echo_Scale.j1 k b c (i : Int) 0 (c.length : Int) (i : Int) false) (Ev.step (ih (i + 1) (by omega) (by omega) (fun j h' => ?_)) fun k => ?_) fun k => ?_
      · by_cases e : j = i
        · subst e; exact hz
        · exact hj j (by omega)
      · rw [echo_Scale.j1, if_neg (by decide), if_pos rfl, wrap_succ (by omega)]
      · rw [echo_Scale.l0, if_pos (by omega), if_pos (by omega), if_pos (by omega), rd_at, if_pos hz, hz]
    · refine Ev.step (g := fun k => echo_Scale.j1 k b c (i : Int) (at_ c i) (c.length : Int) (i : Int) (decide (b > 60))) (Ev.step (Ev.pure _) fun k => ?_) fun k => ?_
      · rw [echo_Scale.j1, if_pos (by simp; omega)]
      · rw [echo_Scale.l0, if_pos (by omega), if_pos (by omega), if_pos (by omega), rd_at, if_neg hz]
theorem Scale_ev (c : List Int) (b : Int) : Ev (fun k => echo_Scale.f k c b) (scR c b) := by
  unfold echo_Scale.f scR
  refine Ev.bind (validate_ev c) ?_
  by_cases h : vErr c = 0
  · simp only [if_pos h]
    have hv := vErr_zero h
    have h6 := hv.six
    by_cases hb : b < 1
    · simp only [if_pos hb]; exact Ev.pure _
    · simp only [if_neg hb]
      unfold slices_Clone_int_int.f
      rw [if_pos (by omega)]
      refine Ev.some_bind ?_
      by_cases h1 : One0 c
      · rw [if_pos h1, one0 h1]
        refine Ev.step (g := fun k => echo_Scale.j1 k b [0] 0 0 1 0 false) (Ev.step (g := fun k => echo_Scale.l0 k b [0] 1 1) (Ev.step (g := fun k => (echo_Validate.f k [0]).bind fun t105 => (if t105 = 0 then (some ([0], 0)) else (some (([] : List Int), 1)))) ?_ fun k => ?_) fun k => ?_) fun k => ?_
        · refine Ev.bind (validate_ev _) ?_
          rw [vErr_one0]
          exact Ev.pure _
        · rw [echo_Scale.l0, if_neg (by decide)]
        · rw [echo_Scale.j1, if_neg (by decide), if_pos rfl, wrap_of (by decide) (by decide)]
          rfl
        · rw [echo_Scale.l0]
          rfl
      · rw [if_neg h1]
        by_cases hb6 : 60 < b
        · rw [if_pos hb6]
          exact scale_big hv hb6 h1 c.length 0 (by omega) (by omega) (fun j hj => by omega)
        · rw [if_neg hb6]
          have := scale_small hv (by omega) (by omega : b ≤ 60) c.length 0 (by omega) (by omega)
          simpa [fin] using this
  · simp only [if_neg h]
    exact Ev.pure _
theorem rscale_l0 {c : List Int} {b : Int} (h : V c) (hb : 1 ≤ b) (hb' : b ≤ 60) : ∀ m i, c.length - i = m → i ≤ c.length →
    Ev (fun k => diaphoneref05_Scale.l0 k c b ((c.take i).map fun x => x * b) (i : Int)) (fin (times c b)) := by
  have h6 := h.six
  intro m
  induction m with
  | zero =>
    intro i hm hi
    rw [List.take_of_length_le (by omega)]
    refine Ev.step (g := fun k => (diaphoneref05_Validate.f k (times c b)).bind fun t110 => (if t110 = 0 then (some (times c b, 0)) else (some (([] : List Int), 1)))) ?_ fun k => ?_
    · refine Ev.bind (rvalidate_ev _) ?_
      unfold fin
      by_cases hz : vErr (times c b) = 0
      · simp only [if_pos hz]; exact Ev.pure _
      · simp only [if_neg hz]; exact Ev.pure _
    · rw [diaphoneref05_Scale.l0, if_neg (by omega)]
      rfl
  | succ m ih =>
    intro i hm hi
    have hlt : i < c.length := by omega
    have hr := h.range hlt
    refine Ev.step (ih (i + 1) (by omega) (by omega)) fun k => ?_
    rw [diaphoneref05_Scale.l0, if_pos (by omega), if_pos (by omega), if_pos (by simp; omega), rd_at, mul_wrap hr hb hb', wrap_succ (by omega)]
    congr 1
    rw [List.take_succ_eq_append_getElem hlt, List.map_append, at_lt c i hlt]
    rfl
theorem RScale_ev (c : List Int) (b : Int) : Ev (fun k => diaphoneref05_Scale.f k c b) (scR c b) := by
  unfold diaphoneref05_Scale.f scR
  refine Ev.bind (rvalidate_ev c) ?_
  by_cases h : vErr c = 0
  · simp only [if_pos h]
    have hv := vErr_zero h
    have h6 := hv.six
    have h0 := hv.pos
    by_cases hb : b < 1
    · simp only [if_pos hb]; exact Ev.pure _
    · simp only [if_neg hb]
      have no : ¬ One0 c → Ev (fun k => diaphoneref05_Scale.j0 k c b false) (if 60 < b then ([], 1) else fin (times c b)) := fun _ => by
        refine Ev.step (g := fun k => if b > 60 then (some (([] : List Int), (1 : Int))) else (diaphoneref05_Scale.l0 k c b ([] : List Int) 0)) ?_ fun k => by rw [diaphoneref05_Scale.j0, if_neg (by decide)]
        by_cases hb6 : 60 < b
        · simp only [if_pos (show b > 60 from hb6), if_pos hb6]; exact Ev.pure _
        · simp only [if_neg (show ¬ b > 60 from hb6), if_neg hb6]
          have := rscale_l0 hv (by omega) (by omega : b ≤ 60) c.length 0 (by omega) (by omega)
          simpa using this
      by_cases hl : c.length = 1
      · simp only [if_pos (show (c.length : Int) = 1 by omega), if_pos (show (0 : Int) < (c.length : Int) by omega), rd_zero]
        by_cases hz : at_ c 0 = 0
        · have h1 : One0 c := ⟨hl, hz⟩
          rw [if_pos h1, hz]
          exact Ev.step (Ev.pure _) fun k => by rw [diaphoneref05_Scale.j0, if_pos (by decide)]
        · have h1 : ¬ One0 c := fun hh => hz hh.2
          rw [if_neg h1, beq_false_of_ne hz]
          exact no h1
      · have h1 : ¬ One0 c := fun hh => hl hh.1
        simp only [if_neg (show ¬ (c.length : Int) = 1 by omega)]
        rw [if_neg h1]
        exact no h1
  · simp only [if_neg h]
    exact Ev.pure _

theorem dl_times (c : List Int) (b : Int) (hb : 1 ≤ b) : dl (times c b) = (dl c).map fun x => b * x := by
  rw [dl_P, dl_P]
  unfold times
  rw [P_scale]
  symm
  apply isortI_uniq
  · exact (isortI_perm (P c)).map _
  · rw [List.pairwise_map]
    exact (isortI_sorted (P c)).imp fun h => Int.mul_le_mul_of_nonneg_left h (by omega)
theorem scR_ok {c : List Int} {b : Int} (h : (scR c b).2 = 0) : V c ∧ 1 ≤ b ∧ (b ≤ 60 ∨ dl c = []) ∧ (scR c b).1 = times c b ∧ V (times c b) := by
  unfold scR at h ⊢
  by_cases h0 : vErr c = 0
  · rw [if_pos h0] at h ⊢
    have hv := vErr_zero h0
    by_cases hb : b < 1
    · rw [if_pos hb] at h; cases h
    · rw [if_neg hb] at h ⊢
      by_cases h1 : One0 c
      · rw [if_pos h1]
        have e : times c b = [0] := by rw [one0 h1]; simp [times]
        rw [e]
        refine ⟨hv, by omega, .inr ?_, rfl, vErr_zero vErr_one0⟩
        rw [one0 h1]
        rfl
      · rw [if_neg h1] at h ⊢
        by_cases hb6 : 60 < b
        · rw [if_pos hb6] at h; cases h
        · rw [if_neg hb6] at h ⊢
          by_cases ht : vErr (times c b) = 0
          · rw [if_pos ht]
            exact ⟨hv, by omega, .inl (by omega), rfl, vErr_zero ht⟩
          · rw [if_neg ht] at h; cases h
  · rw [if_neg h0] at h
    exact absurd h h0
theorem dl_range {c : List Int} (h : V c) {x : Int} (hx : x ∈ dl c) : -1000 ≤ x ∧ x ≤ 1000 := by
  have h6 := h.six
  have hx' : x ∈ D c c.length := (isortI_perm _).mem_iff.1 hx
  have key : ∀ n, n ≤ c.length → ∀ x ∈ D c n, -1000 ≤ x ∧ x ≤ 1000 := by
    intro n
    induction n with
    | zero => intro _ x hx; cases hx
    | succ n ih =>
      intro hn x hx
      rcases List.mem_append.1 hx with hx | hx
      · exact ih (by omega) x hx
      · obtain ⟨j, hj, rfl⟩ := List.mem_map.1 hx
        have hj' := List.mem_range.1 hj
        have a := h.range (i := n) (by omega)
        have b := h.range (i := j) (by omega)
        unfold dif
        omega
  exact key _ (Nat.le_refl _) x hx'
theorem scales_l0 (x y : List Int) (b : Int) (hl : x.length = y.length) (hx : x.length ≤ 1000000) (h : ∀ i, i < x.length → at_ y i = wrap64 (b * at_ x i)) :
    ∀ m i, x.length - i = m → i ≤ x.length → Ev (fun k => diaphonelaw05_EchoScales.l0 k b x y (i : Int)) true := by
  intro m
  induction m with
  | zero =>
    intro i hm hi
    exact Ev.step sane_end fun k => by rw [diaphonelaw05_EchoScales.l0, if_neg (by omega)]
  | succ m ih =>
    intro i hm hi
    refine Ev.step (ih (i + 1) (by omega) (by omega)) fun k => ?_
    rw [diaphonelaw05_EchoScales.l0, if_pos (by omega), if_pos (by omega), if_pos (by omega), rd_at, rd_at, if_pos (h i (by omega)), wrap_succ (by omega)]
theorem scales_j0 (c : List Int) (b : Int) (x : List Int × Int) (hx : x = scR c b) : Ev (fun k => diaphonelaw05_EchoScales.j0 k c b x.1 x.2 (x.2 != x.2)) true := by
  subst hx
  by_cases h : (scR c b).2 = 0
  · obtain ⟨hv, hb, hb60, ha, hm⟩ := scR_ok h
    have hdl := dl_times c b hb
    have hlen := dl_len hv.small
    refine Ev.step (g := fun k => (echo_Delays.f k c).bind fun bt113 => ((echo_Delays.f k (times c b)).bind fun bt117 => (if bt113.2 = 0 then (if bt117.2 = 0 then (diaphonelaw05_EchoScales.j1 k b bt113.1 bt117.1 ((bt113.1.length : Int) != (bt117.1.length : Int))) else (diaphonelaw05_EchoScales.j1 k b bt113.1 bt117.1 true)) else (diaphonelaw05_EchoScales.j1 k b bt113.1 bt117.1 true)))) ?_ fun k => by rw [diaphonelaw05_EchoScales.j0, if_neg (by simp), if_pos h, ha]
    refine Ev.bind (Delays_ev c) ?_
    refine Ev.bind (Delays_ev (times c b)) ?_
    simp only [vErr_of hv, vErr_of hm, if_true, hdl, List.length_map, bne_self_eq_false]
    refine Ev.step (g := fun k => diaphonelaw05_EchoScales.l0 k b (dl c) ((dl c).map fun x => b * x) 0) ?_ fun k => by rw [diaphonelaw05_EchoScales.j1, if_neg (by decide)]
    refine scales_l0 (dl c) ((dl c).map fun x => b * x) b (by simp) hlen (fun i hi => ?_) (dl c).length 0 (by omega) (by omega)
    rw [map_at _ _ i hi]
    rcases hb60 with hb6 | he
    · have hr := dl_range hv (x := at_ (dl c) i) (by rw [at_lt _ i hi]; exact List.getElem_mem hi)
      have h1 : b * at_ (dl c) i ≤ b * 1000 := Int.mul_le_mul_of_nonneg_left hr.2 (by omega)
      have h2 : b * (-1000) ≤ b * at_ (dl c) i := Int.mul_le_mul_of_nonneg_left hr.1 (by omega)
      rw [wrap_of (by omega) (by omega)]
    · rw [he] at hi
      simp at hi
  · exact Ev.step sane_end fun k => by rw [diaphonelaw05_EchoScales.j0, if_neg (by simp), if_neg h]

theorem EchoScales : diaphonelaw05_EchoScales.Pure := by
  intro c b _ _ _ _
  refine Ev.ex (r := true) ?_
  unfold diaphonelaw05_EchoScales.f long1.f
  refine Ev.some_bind ?_
  by_cases hl : 100 < c.length
  · simp only [decide_eq_true hl, if_true]
    exact sane_end
  · simp only [decide_eq_false hl, Bool.false_eq_true, if_false]
    refine Ev.bind (Scale_ev c b) ?_
    refine Ev.bind (RScale_ev c b) ?_
    have hs : (scR c b).1.length ≤ 101 := by
      unfold scR
      split <;> (try split) <;> (try split) <;> (try split) <;> (try split) <;> simp [times_len] <;> omega
    refine Ev.bind (same_ev _ _ (by omega)) ?_
    simp only [decide_true, if_true]
    exact scales_j0 c b _ rfl
end Go.Proofs.Ytlbhedhbakhhlaa.Pure

namespace Go.Proofs.Ytlbhedhbakhhlaa.echoScales
open Go.ChangeShapes Go.WideShapes Go.ChangeAt Go.RowKit
open Go.ChangeMaps (open_string shut_string)
set_option linter.unusedVariables false
theorem own : ownKnob Try.prog.godebug = none := by kernel_rfl
theorem laidOut : laidOutB Try.prog = true := by kernel_rfl
def IsRow (k : IntKind) (w : World) (a : Option Addr) (len cap : Nat) (zs : List Int) : Prop :=
  (a = none ∧ len = 0 ∧ cap = 0 ∧ zs = []) ∨
  ∃ x, a = some x ∧ len ≤ cap ∧ cap ≤ maxLen ∧ zs.length = cap ∧ (∀ i, i < zs.length → w.cell? (x.add i) = some (.int k (zs.getD i 0))) ∧ ∀ n ∈ zs, (Lit.int k n).wf = true
set_option maxRecDepth 100000 in
theorem lifted (os : Os) (started : os.Started) (H : Type) (enc : TypeId × Value → H) :
    ReturnsInHanded {} Try.checked os 11 .any (Rows.echoScalesSpec.pre6 enc Try.prog Try.f11 Rows.echoScalesRow.domain false) (Rows.echoScalesSpec.post enc Try.prog Try.f11 false true false false) := by
  refine returnsInHanded_of_change_sized (C := Try.checked) own started (by kernel_rfl) Try.func11
    (ChangeSpec.witness6 (enc := enc) (C := Try.checked) false ⟨#[], #[.slice none 0 0, .int .i64 0], []⟩ 8 (by kernel_rfl) (by kernel_rfl) (by kernel_rfl) (by kernel_rfl)) ?_
  intro W base args ds gs before hval0 hW hcnd hsz0 _
  have hsz : (DataW.weightsEach Try.prog (Try.f11.params.toList ++ Rows.echoScalesSpec.plain.varTypes Try.prog) (ds ++ gs)).all (· ≤ reachBytes) = true := hsz0
  have hval : ∀ (j : Nat) t v, Try.f11.params[j]? = some t → args[j]? = some v → Value.okWide Try.prog W .any base t v := hval0
  have hW' := hW
  obtain ⟨p, q, hA0, hV, rfl, hfz, hnd⟩ := hW
  have hA : DataW.TrodAll enc Try.prog W 0 (fun _ => true) true Try.f11.params.toList args.toList ds p := hA0
  rw [Try.params11] at hA hval hsz
  obtain ⟨v0, vs0, d0, ds0, p0, q0, hargs, rfl, rfl, h0, r0⟩ := trodAll_cons hA
  obtain ⟨v1, vs1, d1, ds1, p1, q1, rfl, rfl, rfl, h1, r1⟩ := trodAll_cons r0
  obtain ⟨rfl, rfl, rfl⟩ := trodAll_nil r1
  obtain rfl : args = #[v0, v1] := by cases args; simp_all
  obtain ⟨rfl, rfl⟩ := trodVars_none hV
  obtain ⟨a0, len0, cap0, rfl⟩ := okWide_slice Try.underlying22 (hval 0 22 v0 rfl rfl)
  have k0 := h0
  have lt0 : ∀ x ∈ p0, x.block < W.heap.size := by obtain ⟨m, hm⟩ := k0; exact DataW.trod_lt m _ _ _ hm
  obtain ⟨z0, w0⟩ : ∃ zs, IsRow .i64 W a0 len0 cap0 zs := by
    obtain ⟨fuel, hf⟩ := h0
    rcases open_ints Try.underlying22 Try.underlying3 (by kernel_rfl) hf with ⟨hcs, _⟩ | ⟨x, l, c, zs, hcs, _, hl, hm, hz, _, hcell, hwz⟩
    · simp [Value.cells] at hcs
      obtain ⟨rfl, rfl, rfl⟩ := hcs
      exact ⟨[], .inl ⟨rfl, rfl, rfl, rfl⟩⟩
    · simp [Value.cells] at hcs
      obtain ⟨rfl, rfl, rfl⟩ := hcs
      exact ⟨zs, .inr ⟨_, rfl, hl, hm, by simpa using hz, hcell, hwz⟩⟩
  have y0 : len0 * 8 ≤ 140737488351232 := Go.Proofs.YtlbhedhbakhhlaaW.PrintWords.sized_ints hsz (j := 0) (t := 22) rfl rfl Try.underlying22 Try.underlying3 (by kernel_rfl) (by kernel_rfl) h0
  obtain ⟨a1, rfl, rfl, rfl, w1⟩ := open_int Try.underlying3 (hval 1 3 v1 rfl rfl) h1
  clear hA0 hval0 hsz0 hsz
  refine (Q.diaphonelaw05_EchoScales.walk Pure.EchoScales a0 len0 cap0 z0 a1 W w0 y0 w1).mono fun e W' ⟨he, bel⟩ => ?_
  subst he
  exact ⟨_, rfl, _, _, _, [], _, [], hW', trodAll_mk1 (shut_bool Try.underlying4 _), (trodAll_cons_mk (Below.trod laidOut (by kernel_rfl) (of_decide_eq_true (by kernel_rfl)) k0 bel lt0) (trodAll_cons_mk (shut_int Try.underlying3 w1) trodAll_mk0)), rfl, bel.frame _, fun h => by cases h⟩
theorem over : Rows.echoScalesRow.holds Try.pinned (OpenSpec.ofChange Rows.echoScalesSpec) :=
  OpenClaim.holds_of_wide 11 Try.f11 rfl rfl rfl rfl rfl rfl rfl ⟨rfl, rfl, rfl, rfl, rfl⟩ rfl rfl rfl rfl rfl (by kernel_rfl) Try.func11 (by kernel_rfl)
    (of_decide_eq_true (by kernel_rfl)) (by unfold Func.isWrapper; first | (rw [if_pos (by decide +kernel)]; kernel_rfl) | (rw [if_neg (by decide +kernel)]; exact ⟨rfl, rfl⟩))
    (fun os started H enc _ => lifted os started H enc)
theorem proved : Rows.EchoScalesSaid := over
end Go.Proofs.Ytlbhedhbakhhlaa.echoScales
namespace Go.Proofs.Ytlbhedhbakhhlaa
/-- The row, under a short name, for the claim. -/
theorem echoScales_holds : Rows.EchoScalesSaid := echoScales.proved
end Go.Proofs.Ytlbhedhbakhhlaa

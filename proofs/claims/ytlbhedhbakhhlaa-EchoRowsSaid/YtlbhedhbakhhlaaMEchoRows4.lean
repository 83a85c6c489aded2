/- EchoRows: joined texts (4 of 4) of the proof that the given statement of this claim holds, for every input, without any condition of its own. -/
import Derived.Test.YtlbhedhbakhhlaaMEchoRows2
import Derived.Test.YtlbhedhbakhhlaaMEchoRows1
import Derived.Test.YtlbhedhbakhhlaaMEchoRows3
import Derived.KernelRfl
import Derived.Test.YtlbhedhbakhhlaaRows
import Derived.WalkKit
import Derived.ProofKit
import Derived.OpenShut
import Derived.ShutString
import Derived.ChangeOld
import Derived.Below
import Derived.SizedLaws
import Derived.Test.YtlbhedhbakhhlaaWSized

/- Words for the plain laws: what a printed function has as its result from some number of rounds on. -/
namespace Go.Proofs.Ytlbhedhbakhhlaa.Q
open Go.RowKit Go.Proofs.YtlbhedhbakhhlaaW.PrintWords Go.Proofs.YtlbhedhbakhhlaaW.PrintLast Go.Proofs.YtlbhedhbakhhlaaW.PrintMore

theorem Ev.pure {α : Type} (r : α) : Ev (fun _ => some r) r := ⟨0, fun _ _ => rfl⟩
theorem Ev.of {α : Type} {f : Nat → Option α} {r : α} (K : Nat) (h : ∀ k, K ≤ k → f k = some r) : Ev f r := ⟨K, h⟩
theorem Ev.step {α : Type} {f g : Nat → Option α} {r : α} (hg : Ev g r) (h : ∀ k, f (k + 1) = g k) : Ev f r := by
  obtain ⟨K, hK⟩ := hg
  refine ⟨K + 1, fun k hk => ?_⟩
  obtain ⟨j, rfl⟩ : ∃ j, k = j + 1 := ⟨k - 1, by omega⟩
  rw [h]
  exact hK j (by omega)
theorem Ev.congr {α : Type} {f g : Nat → Option α} {r : α} (hg : Ev g r) (h : ∀ k, f k = g k) : Ev f r := by
  obtain ⟨K, hK⟩ := hg
  exact ⟨K, fun k hk => by rw [h]; exact hK k hk⟩
theorem Ev.bind {α β : Type} {f : Nat → Option α} {g : Nat → α → Option β} {a : α} {r : β} (hf : Ev f a) (hg : Ev (fun k => g k a) r) : Ev (fun k => (f k).bind fun x => g k x) r := by
  obtain ⟨K, hK⟩ := hf
  obtain ⟨L, hL⟩ := hg
  refine ⟨K + L, fun k hk => ?_⟩
  show (f k).bind (fun x => g k x) = some r
  rw [hK k (by omega), Option.bind_some]
  exact hL k (by omega)
theorem Ev.some_bind {α β : Type} {a : α} {g : Nat → α → Option β} {r : β} (hg : Ev (fun k => g k a) r) : Ev (fun k => (some a).bind fun x => g k x) r := Ev.bind (Ev.pure a) hg
theorem Ev.ex {α : Type} {f : Nat → Option α} {r : α} (h : Ev f r) : ∃ k, f k = some r := by
  obtain ⟨K, hK⟩ := h
  exact ⟨K, hK K (Nat.le_refl _)⟩
theorem Ev.ite {α : Type} {c : Prop} [Decidable c] {f g : Nat → Option α} {r : α} (h1 : c → Ev f r) (h2 : ¬ c → Ev g r) : Ev (fun k => if c then f k else g k) r := by
  by_cases h : c
  · simp only [if_pos h]; exact h1 h
  · simp only [if_neg h]; exact h2 h

/-- The wrapped numbers that occur. -/
theorem wrap_nat {n : Nat} (h : n ≤ 9223372036854775807) : wrap64 (n : Int) = n := wrap_of (by omega) (by omega)
theorem wrap_succ {n : Nat} (h : n < 9223372036854775807) : wrap64 ((n : Int) + 1) = ((n + 1 : Nat) : Int) := by rw [wrap_of (by omega) (by omega)]; omega
theorem wrap_pred {n : Nat} (h : n ≤ 9223372036854775807) (h0 : 0 < n) : wrap64 ((n : Int) - 1) = ((n - 1 : Nat) : Int) := by rw [wrap_of (by omega) (by omega)]; omega
end Go.Proofs.Ytlbhedhbakhhlaa.Q

/- What Validate says, by the code and by the document: the same. -/
namespace Go.Proofs.Ytlbhedhbakhhlaa.Q
open Go.RowKit Go.Proofs.YtlbhedhbakhhlaaW.PrintWords Go.Proofs.YtlbhedhbakhhlaaW.PrintLast Go.Proofs.YtlbhedhbakhhlaaW.PrintMore

def at_ (l : List Int) (i : Nat) : Int := l.getD i 0
theorem rd_at (l : List Int) (i : Nat) : rd l (i : Int) = at_ l i := rfl
theorem rd_zero (l : List Int) : rd l 0 = at_ l 0 := rfl
theorem at_lt (l : List Int) (i : Nat) (h : i < l.length) : at_ l i = l[i] := by
  unfold at_
  rw [List.getD_eq_getElem?_getD, List.getElem?_eq_getElem h]
  rfl
/-- A place that is out of reach, or not behind the one before. -/
def badAt (l : List Int) (i : Nat) : Prop := (at_ l i < -60 ∨ 60 < at_ l i) ∨ (0 < i ∧ at_ l i ≤ at_ l (i - 1))
instance (l : List Int) (i : Nat) : Decidable (badAt l i) := inferInstanceAs (Decidable (_ ∨ _))
/-- Right places so far. -/
def goodTo (l : List Int) (n : Nat) : Prop := ∀ i, i < n → ¬ badAt l i
/-- Right cliffs. -/
structure V (l : List Int) : Prop where
  pos : 0 < l.length
  six : l.length ≤ 6
  good : goodTo l l.length
  span : at_ l (l.length - 1) - at_ l 0 ≤ 60
theorem V.range {l : List Int} (h : V l) {i : Nat} (hi : i < l.length) : -60 ≤ at_ l i ∧ at_ l i ≤ 60 := by
  have := h.good i hi
  unfold badAt at this
  omega
theorem V.lt {l : List Int} (h : V l) : ∀ {i j : Nat}, i < j → j < l.length → at_ l i < at_ l j := by
  intro i j hij
  induction j with
  | zero => omega
  | succ j ih =>
    intro hj
    have h1 := h.good (j + 1) hj
    unfold badAt at h1
    rw [Nat.add_sub_cancel] at h1
    by_cases e : i = j
    · subst e; omega
    · have := ih (by omega) (by omega)
      omega
instance (l : List Int) (n : Nat) : Decidable (goodTo l n) := inferInstanceAs (Decidable (∀ i, i < n → ¬ badAt l i))
instance (l : List Int) : Decidable (V l) := decidable_of_iff (0 < l.length ∧ l.length ≤ 6 ∧ goodTo l l.length ∧ at_ l (l.length - 1) - at_ l 0 ≤ 60)
  ⟨fun h => ⟨h.1, h.2.1, h.2.2.1, h.2.2.2⟩, fun h => ⟨h.pos, h.six, h.good, h.span⟩⟩
/-- The error. -/
def vErr (l : List Int) : Int := if l.length = 0 ∨ 6 < l.length then 3 else if V l then 0 else 1

theorem within_echo (a b c : Int) : echo_within.f a b c = some (decide (b ≤ a ∧ a ≤ c)) := by
  unfold echo_within.f
  by_cases h : a ≥ b
  · rw [if_pos h]; simp [h]
  · rw [if_neg h]; simp; omega
theorem within_ref (a b c : Int) : diaphoneref05_within.f a b c = some (decide (b ≤ a ∧ a ≤ c)) := by
  unfold diaphoneref05_within.f
  by_cases h : a ≥ b
  · rw [if_pos h]; simp [h]
  · rw [if_neg h]; simp; omega

/-- What comes behind the loop. -/
theorem v_end (l : List Int) (h0 : 0 < l.length) (h6 : l.length ≤ 6) (hg : goodTo l l.length) :
    (if wrap64 (rd l (wrap64 ((l.length : Int) - 1)) - rd l 0) > 60 then some 1 else some 0 : Option Int) = some (vErr l) := by
  have h1 : ¬ badAt l 0 := hg 0 h0
  have h2 : ¬ badAt l (l.length - 1) := hg _ (by omega)
  unfold badAt at h1 h2
  rw [wrap_pred (by omega) h0, rd_at, rd_zero, wrap_of (by omega) (by omega)]
  by_cases hs : at_ l (l.length - 1) - at_ l 0 > 60
  · have hv : vErr l = 1 := by unfold vErr; rw [if_neg (by omega), if_neg (fun hv => by have := hv.span; omega)]
    rw [if_pos hs, hv]
  · have hv : vErr l = 0 := by unfold vErr; rw [if_neg (by omega), if_pos ⟨h0, h6, hg, by omega⟩]
    rw [if_neg hs, hv]
theorem v_bad (l : List Int) (h0 : 0 < l.length) (h6 : l.length ≤ 6) (i : Nat) (hi : i < l.length) (hb : badAt l i) : vErr l = 1 := by
  unfold vErr
  rw [if_neg (by omega), if_neg (fun hv => hv.good i hi hb)]

theorem validate_l0 (l : List Int) (h0 : 0 < l.length) (h6 : l.length ≤ 6) : ∀ m i, l.length - i = m → i ≤ l.length → goodTo l i → Ev (fun k => echo_Validate.l0 k l l (l.length : Int) (i : Int)) (vErr l) := by
  intro m
  induction m with
  | zero =>
    intro i hm hi hg
    have : i = l.length := by omega
    subst this
    refine Ev.step (Ev.pure (vErr l)) fun k => ?_
    rw [echo_Validate.l0, if_neg (by omega), if_pos (by rw [wrap_pred (by omega) h0]; omega), if_pos (by rw [wrap_pred (by omega) h0]; omega), if_pos (by omega)]
    exact v_end l h0 h6 hg
  | succ m ih =>
    intro i hm hi hg
    have hlt : i < l.length := by omega
    by_cases hb : badAt l i
    · refine Ev.step (Ev.pure (vErr l)) fun k => ?_
      rw [echo_Validate.l0, if_pos (by omega), if_pos (by omega), if_pos (by omega), within_echo, Option.bind_some, v_bad l h0 h6 i hlt hb, rd_at]
      by_cases hr : -60 ≤ at_ l i ∧ at_ l i ≤ 60
      · have hb2 : 0 < i ∧ at_ l i ≤ at_ l (i - 1) := by unfold badAt at hb; omega
        rw [if_pos (by simpa using hr), if_pos (by omega), wrap_pred (by omega) hb2.1, if_pos (by omega), if_pos (by omega), rd_at, if_pos hb2.2]
      · rw [if_neg (by simpa using hr)]
    · have hb' := hb
      unfold badAt at hb'
      refine Ev.step (ih (i + 1) (by omega) (by omega) (fun j hj => by
        by_cases e : j = i
        · subst e; exact hb
        · exact hg j (by omega))) fun k => ?_
      rw [echo_Validate.l0, if_pos (by omega), if_pos (by omega), if_pos (by omega), within_echo, Option.bind_some, rd_at, if_pos (by simp; omega), wrap_succ (by omega)]
      by_cases hi0 : 0 < i
      · rw [if_pos (by omega), wrap_pred (by omega) hi0, if_pos (by omega), if_pos (by omega), rd_at, if_neg (by omega)]
      · rw [if_neg (by omega)]
theorem validate_ev (l : List Int) : Ev (fun k => echo_Validate.f k l) (vErr l) := by
  unfold echo_Validate.f
  rw [within_echo]
  refine Ev.some_bind ?_
  by_cases h : 1 ≤ l.length ∧ l.length ≤ 6
  · simp only [if_pos (show decide ((1 : Int) ≤ (l.length : Int) ∧ (l.length : Int) ≤ 6) = true by simp; omega)]
    exact validate_l0 l (by omega) h.2 l.length 0 (by omega) (by omega) (fun _ hj => by omega)
  · simp only [if_neg (show ¬ decide ((1 : Int) ≤ (l.length : Int) ∧ (l.length : Int) ≤ 6) = true by simp; omega)]
    have : vErr l = 3 := by unfold vErr; rw [if_pos (by omega)]
    rw [this]
    exact Ev.pure _

theorem rvalidate_l0 (l : List Int) (h0 : 0 < l.length) (h6 : l.length ≤ 6) : ∀ m i, l.length - i = m → i ≤ l.length → goodTo l i → Ev (fun k => diaphoneref05_Validate.l0 k l (i : Int)) (vErr l) := by
  intro m
  induction m with
  | zero =>
    intro i hm hi hg
    have : i = l.length := by omega
    subst this
    refine Ev.step (Ev.pure (vErr l)) fun k => ?_
    rw [diaphoneref05_Validate.l0, if_neg (by omega), if_pos (by rw [wrap_pred (by omega) h0]; omega), if_pos (by rw [wrap_pred (by omega) h0]; omega), if_pos (by omega)]
    exact v_end l h0 h6 hg
  | succ m ih =>
    intro i hm hi hg
    have hlt : i < l.length := by omega
    by_cases hb : badAt l i
    · refine Ev.step (Ev.pure (vErr l)) fun k => ?_
      rw [diaphoneref05_Validate.l0, if_pos (by omega), if_pos (by omega), within_ref, Option.bind_some, v_bad l h0 h6 i hlt hb, rd_at]
      by_cases hr : -60 ≤ at_ l i ∧ at_ l i ≤ 60
      · have hb2 : 0 < i ∧ at_ l i ≤ at_ l (i - 1) := by unfold badAt at hb; omega
        rw [if_pos (by simpa using hr), if_pos (by omega), wrap_pred (by omega) hb2.1, if_pos (by omega), if_pos (by omega), rd_at, if_pos (by omega)]
      · rw [if_neg (by simpa using hr)]
    · have hb' := hb
      unfold badAt at hb'
      refine Ev.step (ih (i + 1) (by omega) (by omega) (fun j hj => by
        by_cases e : j = i
        · subst e; exact hb
        · exact hg j (by omega))) fun k => ?_
      rw [diaphoneref05_Validate.l0, if_pos (by omega), if_pos (by omega), within_ref, Option.bind_some, rd_at, if_pos (by simp; omega), wrap_succ (by omega)]
      by_cases hi0 : 0 < i
      · rw [if_pos (by omega), wrap_pred (by omega) hi0, if_pos (by omega), if_pos (by omega), rd_at, if_neg (by omega)]
      · rw [if_neg (by omega)]
theorem rvalidate_ev (l : List Int) : Ev (fun k => diaphoneref05_Validate.f k l) (vErr l) := by
  unfold diaphoneref05_Validate.f
  rw [within_ref]
  refine Ev.some_bind ?_
  by_cases h : 1 ≤ l.length ∧ l.length ≤ 6
  · simp only [if_pos (show decide ((1 : Int) ≤ (l.length : Int) ∧ (l.length : Int) ≤ 6) = true by simp; omega)]
    exact rvalidate_l0 l (by omega) h.2 l.length 0 (by omega) (by omega) (fun _ hj => by omega)
  · simp only [if_neg (show ¬ decide ((1 : Int) ≤ (l.length : Int) ∧ (l.length : Int) ≤ 6) = true by simp; omega)]
    have : vErr l = 3 := by unfold vErr; rw [if_pos (by omega)]
    rw [this]
    exact Ev.pure _
theorem vErr_zero {l : List Int} (h : vErr l = 0) : V l := by
  unfold vErr at h
  split at h
  · cases h
  · split at h
    · assumption
    · cases h
theorem vErr_of {l : List Int} (h : V l) : vErr l = 0 := by
  unfold vErr
  rw [if_neg (by have := h.pos; have := h.six; omega), if_pos h]
end Go.Proofs.Ytlbhedhbakhhlaa.Q

/- The document's sort by swaps, and when two rows are the same. -/
namespace Go.Proofs.Ytlbhedhbakhhlaa.Q
open Go.RowKit Go.Proofs.YtlbhedhbakhhlaaW.PrintWords Go.Proofs.YtlbhedhbakhhlaaW.PrintLast Go.Proofs.YtlbhedhbakhhlaaW.PrintMore

theorem same_l0 (x y : List Int) (hx : x.length < 9223372036854775807) (hl : x.length = y.length) :
    ∀ m i, x.length - i = m → i ≤ x.length → Ev (fun k => diaphoneref05_SameInts.l0 k x y (i : Int)) (decide (x.drop i = y.drop i)) := by
  intro m
  induction m with
  | zero =>
    intro i hm hi
    rw [List.drop_of_length_le (by omega : x.length ≤ i), List.drop_of_length_le (by omega : y.length ≤ i)]
    refine Ev.step (Ev.pure _) fun k => ?_
    rw [diaphoneref05_SameInts.l0, if_neg (by omega)]
    rfl
  | succ m ih =>
    intro i hm hi
    have hix : i < x.length := by omega
    have hiy : i < y.length := by omega
    rw [List.drop_eq_getElem_cons hix, List.drop_eq_getElem_cons hiy]
    by_cases he : x[i] = y[i]
    · have e : decide (x[i] :: x.drop (i + 1) = y[i] :: y.drop (i + 1)) = decide (x.drop (i + 1) = y.drop (i + 1)) := by simp only [he, List.cons.injEq, true_and]
      rw [e]
      refine Ev.step (ih (i + 1) (by omega) (by omega)) fun k => ?_
      rw [diaphoneref05_SameInts.l0, if_pos (by omega), if_pos (by omega), if_pos (by omega), rd_lt x i hix, rd_lt y i hiy, if_pos he, wrap_succ (by omega)]
    · have e : decide (x[i] :: x.drop (i + 1) = y[i] :: y.drop (i + 1)) = false := by simp only [List.cons.injEq, he, false_and, decide_false]
      rw [e]
      refine Ev.step (Ev.pure _) fun k => ?_
      rw [diaphoneref05_SameInts.l0, if_pos (by omega), if_pos (by omega), if_pos (by omega), rd_lt x i hix, rd_lt y i hiy, if_neg he]
theorem same_ev (x y : List Int) (hx : x.length < 9223372036854775807) : Ev (fun k => diaphoneref05_SameInts.f k x y) (decide (x = y)) := by
  unfold diaphoneref05_SameInts.f
  by_cases hl : x.length = y.length
  · simp only [if_pos (show (x.length : Int) = (y.length : Int) by omega)]
    have := same_l0 x y hx hl x.length 0 (by omega) (by omega)
    simpa using this
  · simp only [if_neg (show ¬ (x.length : Int) = (y.length : Int) by omega)]
    have : x ≠ y := fun h => hl (by rw [h])
    simp only [this, decide_false]
    exact Ev.pure _

def at' (l : List Int) (i : Nat) : Int := l.getD i 0
theorem at'_lt {l : List Int} {i : Nat} (h : i < l.length) : at' l i = l[i] := by
  unfold at'
  rw [List.getD_eq_getElem?_getD, List.getElem?_eq_getElem h]
  rfl
theorem at'_set {l : List Int} {i j : Nat} {x : Int} (h : i < l.length) : at' (l.set i x) j = if j = i then x else at' l j := by
  unfold at'
  rw [List.getD_eq_getElem?_getD, List.getD_eq_getElem?_getD, List.getElem?_set]
  by_cases e : i = j
  · subst e; simp [h]
  · rw [if_neg e, if_neg (Ne.symm e)]

/-- Places a < b up to i are in order, where b is not j. -/
def Near (x : List Int) (i j : Nat) : Prop := ∀ a b, a < b → b ≤ i → b ≠ j → at' x a ≤ at' x b
theorem sorted_end {x l : List Int} (hp : x.Perm l) (hs : ∀ a b, a < b → b < x.length → at' x a ≤ at' x b) : x = isortI l := by
  refine List.Perm.eq_of_pairwise (le := fun a b => leI a b = true) (fun a b _ _ => leI_anti a b) ?_ (sortBy_sorted leI_trans leI_total l) (hp.trans (sortBy_perm leI l).symm)
  rw [List.pairwise_iff_getElem]
  intro a b ha hb hab
  have := hs a b hab hb
  rw [at'_lt ha, at'_lt hb] at this
  simpa [leI] using this
def swapD (x : List Int) (j : Nat) : List Int := (x.set j (at' x (j - 1))).set (j - 1) (at' x j)
theorem swapD_perm {x : List Int} {j : Nat} (h0 : 0 < j) (h : j < x.length) : (swapD x j).Perm x := by
  unfold swapD
  rw [at'_lt h, at'_lt (by omega : j - 1 < x.length)]
  exact List.set_set_perm h (by omega)
theorem swapD_at {x : List Int} {j : Nat} (h0 : 0 < j) (h : j < x.length) (a : Nat) : at' (swapD x j) a = if a = j - 1 then at' x j else if a = j then at' x (j - 1) else at' x a := by
  unfold swapD
  rw [at'_set (by simp; omega), at'_set h]

theorem sorted_l (l : List Int) (hl : l.length < 9223372036854775807) :
    ∀ m i (x : List Int), l.length - i = m → i ≤ l.length → x.Perm l → (∀ a b, a < b → b < i → at' x a ≤ at' x b) → Ev (fun k => diaphoneref05_sorted.l0 k x (i : Int)) (isortI l) := by
  intro m
  induction m with
  | zero =>
    intro i x hm hi hp hs
    have hx : x.length = l.length := hp.length_eq
    have hi' : i = l.length := by omega
    subst hi'
    rw [← sorted_end hp (fun a b hab hb => hs a b hab (by omega))]
    refine Ev.step (Ev.pure x) fun k => ?_
    rw [diaphoneref05_sorted.l0, if_neg (by omega)]
  | succ m ih =>
    intro i x hm hi hp hs
    have hx : x.length = l.length := hp.length_eq
    have key : ∀ j (x : List Int), j ≤ i → x.Perm l → Near x i j → Ev (fun k => diaphoneref05_sorted.l1 k x (i : Int) (j : Int)) (isortI l) := by
      intro j
      induction j with
      | zero =>
        intro x hj hp hn
        refine Ev.step (ih (i + 1) x (by omega) (by omega) hp (fun a b hab hb => hn a b hab (by omega) (by omega))) fun k => ?_
        rw [diaphoneref05_sorted.l1, if_neg (by omega), wrap_succ (by omega)]
      | succ j ihj =>
        intro x hj hp hn
        have hx : x.length = l.length := hp.length_eq
        by_cases hgt : at' x j > at' x (j + 1)
        · refine Ev.step (ihj (swapD x (j + 1)) (by omega) ((swapD_perm (by omega) (by omega)).trans hp) ?_) fun k => ?_
          · intro a b hab hb hne
            rw [swapD_at (by omega) (by omega), swapD_at (by omega) (by omega), Nat.add_sub_cancel, if_neg hne]
            have ha1 := hn a b hab hb
            have ha2 := hn a j
            have ha3 := hn j b
            have ha4 := hn (j + 1) b
            by_cases e1 : b = j + 1
            · subst e1
              rw [if_pos rfl]
              by_cases e2 : a = j
              · subst e2; rw [if_pos rfl]; omega
              · rw [if_neg e2, if_neg (by omega)]
                exact ha2 (by omega) (by omega) (by omega)
            · rw [if_neg e1]
              by_cases e2 : a = j
              · subst e2; rw [if_pos rfl]; exact ha4 (by omega) hb e1
              · rw [if_neg e2]
                by_cases e3 : a = j + 1
                · subst e3; rw [if_pos rfl]; exact ha3 (by omega) hb e1
                · rw [if_neg e3]; exact ha1 e1
          · rw [diaphoneref05_sorted.l1, if_pos (by omega), wrap_pred (by omega) (by omega), if_pos (by omega), if_pos (by omega), if_pos (by omega), if_pos (by omega)]
            rw [if_pos (show rd x ((j + 1 - 1 : Nat) : Int) > rd x ((j + 1 : Nat) : Int) from hgt)]
            rfl
        · refine Ev.step (ih (i + 1) x (by omega) (by omega) hp (fun a b hab hb => ?_)) fun k => ?_
          · by_cases e : b = j + 1
            · subst e
              by_cases e2 : a = j
              · subst e2; omega
              · have := hn a j (by omega) (by omega) (by omega)
                omega
            · exact hn a b hab (by omega) e
          · rw [diaphoneref05_sorted.l1, if_pos (by omega), wrap_pred (by omega) (by omega), if_pos (by omega), if_pos (by omega), if_pos (by omega), if_pos (by omega)]
            rw [if_neg (show ¬ rd x ((j + 1 - 1 : Nat) : Int) > rd x ((j + 1 : Nat) : Int) from hgt), wrap_succ (by omega)]
    refine Ev.step (key i x (Nat.le_refl _) hp (fun a b hab hb hne => hs a b hab (by omega))) fun k => ?_
    rw [diaphoneref05_sorted.l0, if_pos (by omega)]
theorem sorted_ev (l : List Int) (hl : l.length < 17592186044416) : Ev (fun k => diaphoneref05_sorted.f k l) (isortI l) := by
  unfold diaphoneref05_sorted.f
  refine Ev.some_bind ?_
  simp only [List.length_nil, Nat.zero_add, if_pos hl, List.nil_append]
  exact sorted_l l (by omega) l.length 0 l (by omega) (by omega) (.refl _) (fun a b _ hb => by omega)
end Go.Proofs.Ytlbhedhbakhhlaa.Q

/- The delays, by the code and by the document, and whether none comes twice. -/
namespace Go.Proofs.Ytlbhedhbakhhlaa.Q
open Go.RowKit Go.Proofs.YtlbhedhbakhhlaaW.PrintWords Go.Proofs.YtlbhedhbakhhlaaW.PrintLast Go.Proofs.YtlbhedhbakhhlaaW.PrintMore

/-- Few numbers, all small. -/
structure Small (c : List Int) : Prop where
  len : c.length ≤ 1000
  at_ : ∀ i, -1000000 ≤ at_ c i ∧ at_ c i ≤ 1000000
theorem at_ge (l : List Int) (i : Nat) (h : l.length ≤ i) : at_ l i = 0 := by
  unfold at_
  rw [List.getD_eq_getElem?_getD, List.getElem?_eq_none h]
  rfl
theorem V.small {c : List Int} (h : V c) : Small c where
  len := by have := h.six; omega
  at_ := fun i => by
    by_cases hi : i < c.length
    · have := h.range hi; omega
    · rw [at_ge c i (by omega)]; omega

def dif (c : List Int) (a b : Nat) : Int := at_ c a - at_ c b
/-- The delays of the first n cliffs. -/
def D (c : List Int) : Nat → List Int
  | 0 => []
  | n + 1 => D c n ++ (List.range n).map (dif c n)
theorem D_len (c : List Int) : ∀ n, n ≤ 1000 → (D c n).length ≤ n * 1000
  | 0, _ => by simp [D]
  | n + 1, h => by
    have := D_len c n (by omega)
    simp only [D, List.length_append, List.length_map, List.length_range]
    omega
theorem dif_wrap {c : List Int} (h : Small c) (a b : Nat) : wrap64 (at_ c a - at_ c b) = dif c a b := by
  have h1 := h.at_ a
  have h2 := h.at_ b
  exact wrap_of (by omega) (by omega)
theorem part_succ (c : List Int) (i j : Nat) : D c i ++ (List.range (j + 1)).map (dif c i) = (D c i ++ (List.range j).map (dif c i)) ++ [dif c i j] := by
  rw [List.range_succ, List.map_append, List.append_assoc]
  rfl
theorem part_len {c : List Int} (h : Small c) (i j : Nat) (hi : i ≤ 1000) (hj : j ≤ 1000) : (D c i ++ (List.range j).map (dif c i)).length < 17592186044416 := by
  have := D_len c i hi
  simp only [List.length_append, List.length_map, List.length_range]
  omega
theorem sort_ev (l : List Int) (h : l.length < 17592186044416) : slices_Sort_int_int.f l = some (isortI l) := by
  unfold slices_Sort_int_int.f
  rw [if_pos h]
theorem rd_take (c : List Int) (i j : Nat) (h : j < i) : rd (c.take i) (j : Int) = at_ c j := by
  show (c.take i).getD j 0 = c.getD j 0
  rw [List.getD_eq_getElem?_getD, List.getD_eq_getElem?_getD, List.getElem?_take_of_lt h]

theorem delays_l0 {c : List Int} (h : Small c) : ∀ m i, c.length - i = m → i ≤ c.length → Ev (fun k => echo_delays.l0 k c (D c i) c (c.length : Int) (i : Int)) (isortI (D c c.length)) := by
  have hlen := h.len
  intro m
  induction m with
  | zero =>
    intro i hm hi
    have : i = c.length := by omega
    subst this
    refine Ev.step (Ev.pure _) fun k => ?_
    have := D_len c c.length h.len
    rw [echo_delays.l0, if_neg (by omega), sort_ev _ (by omega)]
    rfl
  | succ m ih =>
    intro i hm hi
    have key : ∀ m' j, i - j = m' → j ≤ i → Ev (fun k => echo_delays.l1 k c (D c i ++ (List.range j).map (dif c i)) (at_ c i) c (c.length : Int) (i : Int) (c.take i) ((c.take i).length : Int) (j : Int)) (isortI (D c c.length)) := by
      intro m'
      induction m' with
      | zero =>
        intro j hm' hj
        have : j = i := by omega
        subst this
        refine Ev.step (ih (j + 1) (by omega) (by omega)) fun k => ?_
        rw [echo_delays.l1, if_neg (by rw [List.length_take]; omega), wrap_succ (by omega)]
        rfl
      | succ m' ih' =>
        intro j hm' hj
        refine Ev.step (ih' (j + 1) (by omega) (by omega)) fun k => ?_
        rw [echo_delays.l1, if_pos (by rw [List.length_take]; omega), if_pos (by omega), if_pos (by rw [List.length_take]; omega), if_pos (part_len h i j (by omega) (by omega)), rd_take c i j (by omega), dif_wrap h, wrap_succ (by omega), ← part_succ]
    refine Ev.step (key i 0 (by omega) (by omega)) fun k => ?_
    rw [echo_delays.l0, if_pos (by omega), if_pos (by omega), if_pos (by omega), if_pos (by omega), Int.toNat_natCast, rd_at]
    simp
theorem delays_ev {c : List Int} (h : Small c) : Ev (fun k => echo_delays.f k c) (isortI (D c c.length)) := by
  unfold echo_delays.f
  exact delays_l0 h c.length 0 (by omega) (by omega)

theorem rdelays_l0 {c : List Int} (h : Small c) : ∀ m i, c.length - i = m → i ≤ c.length → Ev (fun k => diaphoneref05_delays.l0 k c (D c i) (i : Int)) (isortI (D c c.length)) := by
  have hlen := h.len
  intro m
  induction m with
  | zero =>
    intro i hm hi
    have : i = c.length := by omega
    subst this
    have := D_len c c.length h.len
    refine Ev.step (Ev.bind (sorted_ev (D c c.length) (by omega)) (Ev.pure _)) fun k => ?_
    rw [diaphoneref05_delays.l0, if_neg (by omega)]
  | succ m ih =>
    intro i hm hi
    have key : ∀ m' j, i - j = m' → j ≤ i → Ev (fun k => diaphoneref05_delays.l1 k c (D c i ++ (List.range j).map (dif c i)) (i : Int) (j : Int)) (isortI (D c c.length)) := by
      intro m'
      induction m' with
      | zero =>
        intro j hm' hj
        have : j = i := by omega
        subst this
        refine Ev.step (ih (j + 1) (by omega) (by omega)) fun k => ?_
        rw [diaphoneref05_delays.l1, if_neg (by omega), wrap_succ (by omega)]
        rfl
      | succ m' ih' =>
        intro j hm' hj
        refine Ev.step (ih' (j + 1) (by omega) (by omega)) fun k => ?_
        rw [diaphoneref05_delays.l1, if_pos (by omega), if_pos (by omega), if_pos (by omega), if_pos (by omega), if_pos (by omega), if_pos (part_len h i j (by omega) (by omega)), rd_at, rd_at, dif_wrap h, wrap_succ (by omega), ← part_succ]
    refine Ev.step (key i 0 (by omega) (by omega)) fun k => ?_
    rw [diaphoneref05_delays.l0, if_pos (by omega)]
    simp
theorem rdelays_ev {c : List Int} (h : Small c) : Ev (fun k => diaphoneref05_delays.f k c) (isortI (D c c.length)) := by
  unfold diaphoneref05_delays.f
  exact rdelays_l0 h c.length 0 (by omega) (by omega)

/-- All delays, sorted. -/
def dl (c : List Int) : List Int := isortI (D c c.length)
theorem dl_len {c : List Int} (h : Small c) : (dl c).length ≤ 1000000 := by
  unfold dl isortI
  rw [(sortBy_perm leI _).length_eq]
  have := D_len c c.length h.len
  have := h.len
  omega

/-! ### None twice -/
def allKept (s : List Int) : Prop := ∀ j, j < s.length → Lib.keeps s.toArray j = true
instance (s : List Int) : Decidable (allKept s) := inferInstanceAs (Decidable (∀ j, j < s.length → Lib.keeps s.toArray j = true))
theorem compact_len (s : List Int) : (Lib.compact s).length = s.length ↔ allKept s := by
  unfold Lib.compact Lib.compactUpTo
  rw [List.length_map]
  have h : ((List.range s.length).filter (Lib.keeps s.toArray)).length = (List.range s.length).length ↔ ∀ a ∈ List.range s.length, Lib.keeps s.toArray a = true := List.length_filter_eq_length_iff
  rw [List.length_range] at h
  rw [h]
  simp [allKept]
theorem compact_le (s : List Int) : (Lib.compact s).length ≤ s.length := by
  unfold Lib.compact Lib.compactUpTo
  rw [List.length_map]
  have := List.length_filter_le (Lib.keeps s.toArray) (List.range s.length)
  simpa using this
theorem keeps_at (s : List Int) (j : Nat) (hj : j < s.length) : Lib.keeps s.toArray j = decide (j = 0 ∨ at_ s j ≠ at_ s (j - 1)) := by
  unfold Lib.keeps
  have e : ∀ i, i < s.length → s.toArray[i]! = at_ s i := fun i hi => by
    rw [getElem!_pos _ _ (by simpa using hi), at_lt s i hi]
    simp
  rw [e j hj, e (j - 1) (by omega)]
theorem isRuler_ev {c : List Int} (h : Small c) : Ev (fun k => echo_isRuler.f k c) (decide (allKept (dl c))) := by
  unfold echo_isRuler.f
  refine Ev.bind (delays_ev h) ?_
  have hl := dl_len h
  unfold dl at hl
  unfold slices_Clone_int_int.f slices_Compact_int_int.f
  simp only [if_pos (show (isortI (D c c.length)).length < 17592186044416 by omega), Option.bind_some]
  have e : (((Lib.compact (isortI (D c c.length))).length : Int) == ((isortI (D c c.length)).length : Int)) = decide (allKept (dl c)) := by
    rw [Bool.eq_iff_iff]
    simp only [beq_iff_eq, decide_eq_true_eq]
    rw [← compact_len]
    unfold dl
    omega
  rw [e]
  exact Ev.pure _
theorem ruler_l0 (s : List Int) (hs : s.length ≤ 1000000) : ∀ m i, s.length - i = m → 0 < i → (∀ j, j < i → j < s.length → Lib.keeps s.toArray j = true) → Ev (fun k => diaphoneref05_ruler.l0 k s (i : Int)) (decide (allKept s)) := by
  intro m
  induction m with
  | zero =>
    intro i hm hi hk
    have e : decide (allKept s) = true := decide_eq_true (fun j hj => hk j (by omega) hj)
    rw [e]
    refine Ev.step (Ev.pure _) fun k => ?_
    rw [diaphoneref05_ruler.l0, if_neg (by omega)]
  | succ m ih =>
    intro i hm hi hk
    by_cases he : at_ s i = at_ s (i - 1)
    · have e : decide (allKept s) = false := decide_eq_false (fun hall => by
        have := hall i (by omega)
        rw [keeps_at s i (by omega), decide_eq_true_eq] at this
        omega)
      rw [e]
      refine Ev.step (Ev.pure _) fun k => ?_
      rw [diaphoneref05_ruler.l0, if_pos (by omega), if_pos (by omega), wrap_pred (by omega) hi, if_pos (by omega), if_pos (by omega), rd_at, rd_at, if_pos he]
    · refine Ev.step (ih (i + 1) (by omega) (by omega) (fun j hj hjl => ?_)) fun k => ?_
      · by_cases e : j = i
        · subst e
          rw [keeps_at s j hjl]
          simp [he]
        · exact hk j (by omega) hjl
      · rw [diaphoneref05_ruler.l0, if_pos (by omega), if_pos (by omega), wrap_pred (by omega) hi, if_pos (by omega), if_pos (by omega), rd_at, rd_at, if_neg he, wrap_succ (by omega)]
theorem ruler_ev {c : List Int} (h : Small c) : Ev (fun k => diaphoneref05_ruler.f k c) (decide (allKept (dl c))) := by
  unfold diaphoneref05_ruler.f
  exact Ev.bind (rdelays_ev h) (ruler_l0 (dl c) (dl_len h) _ 1 rfl (by omega) (fun j hj hl => by
    have : j = 0 := by omega
    subst this
    rw [keeps_at _ _ hl]
    simp))

/-! ### Delays and IsRuler -/
theorem Delays_ev (c : List Int) : Ev (fun k => echo_Delays.f k c) (if vErr c = 0 then dl c else [], vErr c) := by
  unfold echo_Delays.f
  refine Ev.bind (validate_ev c) ?_
  by_cases h : vErr c = 0
  · simp only [if_pos h]
    rw [h]
    exact Ev.bind (delays_ev (vErr_zero h).small) (Ev.pure _)
  · simp only [if_neg h]
    exact Ev.pure _
theorem RDelays_ev (c : List Int) : Ev (fun k => diaphoneref05_Delays.f k c) (if vErr c = 0 then dl c else [], vErr c) := by
  unfold diaphoneref05_Delays.f
  refine Ev.bind (rvalidate_ev c) ?_
  by_cases h : vErr c = 0
  · simp only [if_pos h]
    rw [h]
    exact Ev.bind (rdelays_ev (vErr_zero h).small) (Ev.pure _)
  · simp only [if_neg h]
    exact Ev.pure _
theorem IsRuler_ev (c : List Int) : Ev (fun k => echo_IsRuler.f k c) (if vErr c = 0 then decide (allKept (dl c)) else false, vErr c) := by
  unfold echo_IsRuler.f
  refine Ev.bind (validate_ev c) ?_
  by_cases h : vErr c = 0
  · simp only [if_pos h]
    rw [h]
    exact Ev.bind (isRuler_ev (vErr_zero h).small) (Ev.pure _)
  · simp only [if_neg h]
    exact Ev.pure _
theorem RIsRuler_ev (c : List Int) : Ev (fun k => diaphoneref05_IsRuler.f k c) (if vErr c = 0 then decide (allKept (dl c)) else false, vErr c) := by
  unfold diaphoneref05_IsRuler.f
  refine Ev.bind (rvalidate_ev c) ?_
  by_cases h : vErr c = 0
  · simp only [if_pos h]
    rw [h]
    exact Ev.bind (ruler_ev (vErr_zero h).small) (Ev.pure _)
  · simp only [if_neg h]
    exact Ev.pure _
end Go.Proofs.Ytlbhedhbakhhlaa.Q

/- The chapter's examples hold. -/
namespace Go.Proofs.Ytlbhedhbakhhlaa.Q
open Go.RowKit Go.Proofs.YtlbhedhbakhhlaaW.PrintWords Go.Proofs.YtlbhedhbakhhlaaW.PrintLast Go.Proofs.YtlbhedhbakhhlaaW.PrintMore

theorem Ev.mono {α : Type} {f : Nat → Option α} {r : α} (hm : ∀ k, LeO (f k) (f (k + 1))) (K : Nat) (h : f K = some r) : Ev f r := by
  refine ⟨K, fun k hk => ?_⟩
  induction k with
  | zero => obtain rfl : K = 0 := by omega
            exact h
  | succ k ih =>
    by_cases e : K = k + 1
    · rw [← e]; exact h
    · exact hm k r (ih (by omega))
set_option maxRecDepth 100000 in
theorem sane_60 : diaphonelaw05_sane.f 60 = some true := by kernel_rfl
theorem sane_ev : Ev (fun k => diaphonelaw05_sane.f k) true := Ev.mono diaphonelaw05_sane.mono 60 sane_60
theorem sane_end : Ev (fun k => (diaphonelaw05_sane.f k).bind fun t => some t) true := Ev.bind sane_ev (Ev.pure _)
end Go.Proofs.Ytlbhedhbakhhlaa.Q

/- The plain law of EchoRows: what the code says of any row is what the document says. -/
namespace Go.Proofs.Ytlbhedhbakhhlaa.Pure
open Go.RowKit Go.Proofs.Ytlbhedhbakhhlaa.Q

theorem EchoRows : diaphonelaw05_EchoRows.Pure := by
  intro c _ _ _
  refine Ev.ex (r := true) ?_
  unfold diaphonelaw05_EchoRows.f long1.f
  refine Ev.some_bind ?_
  by_cases hl : 100 < c.length
  · simp only [decide_eq_true hl, if_true]
    exact sane_end
  · simp only [decide_eq_false hl, Bool.false_eq_true, if_false]
    refine Ev.bind (Delays_ev c) ?_
    refine Ev.bind (RDelays_ev c) ?_
    refine Ev.bind (IsRuler_ev c) ?_
    refine Ev.bind (RIsRuler_ev c) ?_
    refine Ev.bind (validate_ev c) ?_
    refine Ev.bind (rvalidate_ev c) ?_
    simp only [if_true, beq_self_eq_true]
    have hs : (if vErr c = 0 then dl c else []).length < 9223372036854775807 := by
      split
      · rename_i h
        have := dl_len (vErr_zero h).small
        omega
      · simp
    refine Ev.bind (same_ev _ _ hs) ?_
    simp only [decide_true, if_true]
    exact sane_end
end Go.Proofs.Ytlbhedhbakhhlaa.Pure

namespace Go.Proofs.Ytlbhedhbakhhlaa.echoRows
open Go.ChangeShapes Go.WideShapes Go.ChangeAt Go.RowKit
open Go.ChangeMaps (open_string shut_string)
set_option linter.unusedVariables false
theorem own : ownKnob Try.prog.godebug = none := by kernel_rfl
theorem laidOut : laidOutB Try.prog = true := by kernel_rfl
def IsRow (k : IntKind) (w : World) (a : Option Addr) (len cap : Nat) (zs : List Int) : Prop :=
  (a = none ∧ len = 0 ∧ cap = 0 ∧ zs = []) ∨
  ∃ x, a = some x ∧ len ≤ cap ∧ cap ≤ maxLen ∧ zs.length = cap ∧ (∀ i, i < zs.length → w.cell? (x.add i) = some (.int k (zs.getD i 0))) ∧ ∀ n ∈ zs, (Lit.int k n).wf = true
set_option maxRecDepth 100000 in
theorem lifted (os : Os) (started : os.Started) (H : Type) (enc : TypeId × Value → H) :
    ReturnsInHanded {} Try.checked os 3 .any (Rows.echoRowsSpec.pre6 enc Try.prog Try.f3 Rows.echoRowsRow.domain false) (Rows.echoRowsSpec.post enc Try.prog Try.f3 false true false false) := by
  refine returnsInHanded_of_change_sized (C := Try.checked) own started (by kernel_rfl) Try.func3
    (ChangeSpec.witness6 (enc := enc) (C := Try.checked) false ⟨#[], #[.slice none 0 0], []⟩ 8 (by kernel_rfl) (by kernel_rfl) (by kernel_rfl) (by kernel_rfl)) ?_
  intro W base args ds gs before hval0 hW hcnd hsz0 _
  have hsz : (DataW.weightsEach Try.prog (Try.f3.params.toList ++ Rows.echoRowsSpec.plain.varTypes Try.prog) (ds ++ gs)).all (· ≤ reachBytes) = true := hsz0
  have hval : ∀ (j : Nat) t v, Try.f3.params[j]? = some t → args[j]? = some v → Value.okWide Try.prog W .any base t v := hval0
  have hW' := hW
  obtain ⟨p, q, hA0, hV, rfl, hfz, hnd⟩ := hW
  have hA : DataW.TrodAll enc Try.prog W 0 (fun _ => true) true Try.f3.params.toList args.toList ds p := hA0
  rw [Try.params3] at hA hval hsz
  obtain ⟨v0, vs0, d0, ds0, p0, q0, hargs, rfl, rfl, h0, r0⟩ := trodAll_cons hA
  obtain ⟨rfl, rfl, rfl⟩ := trodAll_nil r0
  obtain rfl : args = #[v0] := by cases args; simp_all
  obtain ⟨rfl, rfl⟩ := trodVars_none hV
  obtain ⟨a0, len0, cap0, rfl⟩ := okWide_slice Try.underlying22 (hval 0 22 v0 rfl rfl)
  have k0 := h0
  have lt0 : ∀ x ∈ p0, x.block < W.heap.size := by obtain ⟨m, hm⟩ := k0; exact DataW.trod_lt m _ _ _ hm
  obtain ⟨z0, w0⟩ : ∃ zs, IsRow .i64 W a0 len0 cap0 zs := by
    obtain ⟨fuel, hf⟩ := h0
    rcases open_ints Try.underlying22 Try.underlying3 (by kernel_rfl) hf with ⟨hcs, _⟩ | ⟨x, l, c, zs, hcs, _, hl, hm, hz, _, hcell, hwz⟩
    · simp [Value.cells] at hcs
      obtain ⟨rfl, rfl, rfl⟩ := hcs
      exact ⟨[], .inl ⟨rfl, rfl, rfl, rfl⟩⟩
    · simp [Value.cells] at hcs
      obtain ⟨rfl, rfl, rfl⟩ := hcs
      exact ⟨zs, .inr ⟨_, rfl, hl, hm, by simpa using hz, hcell, hwz⟩⟩
  have y0 : len0 * 8 ≤ 140737488351232 := Go.Proofs.YtlbhedhbakhhlaaW.PrintWords.sized_ints hsz (j := 0) (t := 22) rfl rfl Try.underlying22 Try.underlying3 (by kernel_rfl) (by kernel_rfl) h0
  clear hA0 hval0 hsz0 hsz
  refine (Q.diaphonelaw05_EchoRows.walk Pure.EchoRows a0 len0 cap0 z0 W w0 y0).mono fun e W' ⟨he, bel⟩ => ?_
  subst he
  exact ⟨_, rfl, _, _, _, [], _, [], hW', trodAll_mk1 (shut_bool Try.underlying4 _), (trodAll_cons_mk (Below.trod laidOut (by kernel_rfl) (of_decide_eq_true (by kernel_rfl)) k0 bel lt0) trodAll_mk0), rfl, bel.frame _, fun h => by cases h⟩
theorem over : Rows.echoRowsRow.holds Try.pinned (OpenSpec.ofChange Rows.echoRowsSpec) :=
  OpenClaim.holds_of_wide 3 Try.f3 rfl rfl rfl rfl rfl rfl rfl ⟨rfl, rfl, rfl, rfl, rfl⟩ rfl rfl rfl rfl rfl (by kernel_rfl) Try.func3 (by kernel_rfl)
    (of_decide_eq_true (by kernel_rfl)) (by unfold Func.isWrapper; first | (rw [if_pos (by decide +kernel)]; kernel_rfl) | (rw [if_neg (by decide +kernel)]; exact ⟨rfl, rfl⟩))
    (fun os started H enc _ => lifted os started H enc)
theorem proved : Rows.EchoRowsSaid := over
end Go.Proofs.Ytlbhedhbakhhlaa.echoRows
namespace Go.Proofs.Ytlbhedhbakhhlaa
/-- The row, under a short name, for the claim. -/
theorem echoRows_holds : Rows.EchoRowsSaid := echoRows.proved
end Go.Proofs.Ytlbhedhbakhhlaa

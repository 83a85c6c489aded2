/- EchoAmong: joined texts (3 of 6) of the proof that the given statement of this claim holds, for every input, without any condition of its own. -/
import Derived.Test.YtlbhedhbakhhlaaMEchoAmong2
import Derived.RangeFuncBox
import Derived.RangeFuncNested
import Derived.RangeFuncLeaves
import Derived.Shelf.Abstract
import Derived.WalkKit
import Derived.OwnWalkIn
import Derived.TacticsInMore
import Derived.LoopNIn
import Derived.LoopIn
import Derived.Maps.AppendAt
import Derived.BigFrameIn
import Derived.Shelf.SlSortCmp.NoneTotal
import Derived.Ground.SlsfProg
import Derived.Test.YtlbhedhbakhhlaaProg
import Derived.Lib.SlicesCompact
import Derived.Lib.SliceRun
import Derived.Deep.LoopGhost
import Derived.Deep.QuietTactic
set_option linter.unusedVariables false
set_option linter.unusedSimpArgs false

/- echo.mirror: a range over slices.Backward whose body appends: the iterator's contract, and the function's, told as the printed ones are. -/
namespace Go.Proofs.Ytlbhedhbakhhlaa.Q
open Go.RowKit Go.Shelf Go.Proofs.YtlbhedhbakhhlaaW.PrintWords Go.Proofs.YtlbhedhbakhhlaaW.PrintLast Go.Proofs.YtlbhedhbakhhlaaW.PrintMore
attribute [local go_sem] Oper.semAt_some

/-- What has come when k rounds are over. -/
def upto {α : Type} (f : Nat → α) (k : Nat) : List α := (List.range k).map f
theorem upto_succ {α : Type} (f : Nat → α) (k : Nat) : upto f (k + 1) = upto f k ++ [f k] := by simp [upto, List.range_succ]
theorem upto_length {α : Type} (f : Nat → α) (k : Nat) : (upto f k).length = k := by simp [upto]
/-- What a round keeps: what lay below n₀, and the iterator's own box. -/
def KB (n₀ Bs : Nat) (A B : World) : Prop := Below n₀ A B ∧ B.heap[Bs]? = A.heap[Bs]?
theorem KB.refl (n₀ Bs : Nat) (A : World) : KB n₀ Bs A A := ⟨Below.refl _ _, rfl⟩
theorem KB.trans {n₀ Bs : Nat} {A B C : World} (h : KB n₀ Bs A B) (k : KB n₀ Bs B C) : KB n₀ Bs A C := ⟨h.1.trans k.1, k.2.trans h.2⟩
/-- What comes in round k from the end of n numbers. -/
def bk (zs : List Int) (n k : Nat) : Int × Int := (((n - 1 - k : Nat) : Int), rd zs ((n - 1 - k : Nat) : Int))

set_option maxRecDepth 100000 in
set_option maxHeartbeats 2000000 in
theorem backward1_in (F : Fence) (n : Nat) (h7 : F.fn 107) (hro : F.round = none) (hn : 1 ≤ n) (l Bs n₀ : Nat) (A0 : Option Addr) (cap : Nat) (zs : List Int) (hlen : zs.length < 17592186044416) (J Jx : List (Int × Int) → World → Prop)
    (hY : ∀ pre x W, J pre W → pre.length < zs.length → YieldAt F (n - 1) Try.prog l #[.int .i64 x.1, .int .i64 x.2] W fun e W' =>
      (e = .returned (.bool true) ∧ J (pre ++ [x]) W' ∧ KB n₀ Bs W W') ∨ (e = .returned (.bool false) ∧ Jx (pre ++ [x]) W'))
    (W : World) (hBs : W.cell? ⟨Bs, 0, none⟩ = some (.slice A0 zs.length cap)) (hc : Kd.C (Kd.int .i64) W A0 zs.length zs) (hcb : ∀ ad, A0 = some ad → 0 < zs.length → ad.block < n₀) (h0 : J [] W) :
    CallsIn F n Try.prog 107 #[.func (.yield l) #[] #[], .pointer (some ⟨Bs, 0, none⟩)] W fun e W' => (∃ v, e = .returned v) ∧
      ((∃ ys, ys = upto (bk zs zs.length) zs.length ∧ J ys W') ∨ (∃ pre, (∃ k, k ≤ zs.length ∧ pre = upto (bk zs zs.length) k) ∧ Jx pre W')) := by
  refine callsIn_of_wp Try.func107 rfl h7 ?_ hro
  simp only [Try.ntmps107, List.size_toArray, List.length_cons, List.length_nil, Nat.reduceAdd, Nat.reduceSub, Array.replicate_succ, Array.replicate_zero, List.push_toArray, List.append_toArray, List.nil_append, List.cons_append]
  gi_wp2
  gi_loopw [3] (fun i wr => ∃ m : Nat, m ≤ zs.length ∧ i = .int .i64 ((m : Int) - 1) ∧ J (upto (bk zs zs.length) (zs.length - m)) wr ∧ Aside0 (KB n₀ Bs W wr))
    (fun i _ => (intOf i + 1).toNat)
  case atStart => exact ⟨zs.length, Nat.le_refl _, rfl, by rw [Nat.sub_self]; exact h0, ⟨KB.refl _ _ _⟩⟩
  case round =>
    obtain ⟨m, hm, rfl, hJs, hnx⟩ := hrel
    have hbox : wr.cell? ⟨Bs, 0, none⟩ = some (.slice A0 zs.length cap) := (World.cell?_of_block (w := W) (a := ⟨Bs, 0, none⟩) hnx.out.2).trans hBs
    cases m with
    | zero =>
      gi_wp2
      go_end0
      exact ⟨⟨_, rfl⟩, .inl ⟨_, by simp, hJs⟩⟩
    | succ j =>
      have hj : j < zs.length := by omega
      obtain ⟨ad, hA, hcell⟩ := Kd.at_int hc j (by omega) (by omega)
      subst hA
      have hcell' : wr.cell? (ad.add j) = some (.int .i64 (rd zs j)) := by
        have hb : (ad.add (j : Int).toNat).block < n₀ := by
          have := hcb ad rfl (by omega)
          unfold Addr.add; split <;> exact this
        have := (hnx.out.1.cell hb).trans hcell
        simpa using this
      have e1 : zs.length - 1 - (zs.length - (j + 1)) = j := by omega
      have hx : bk zs zs.length (zs.length - (j + 1)) = ((j : Int), rd zs j) := by unfold bk; rw [e1]
      obtain ⟨fn, tmps, assign, body, hy, hR⟩ := hY _ (bk zs zs.length (zs.length - (j + 1))) wr hJs (by rw [upto_length]; omega)
      rw [hx] at hy hR
      dsimp only at hy
      have hnx2 := hnx
      clear hx e1
      gi_wp2
      refine hR.mono ?_
      rintro e W3 (⟨rfl, hJ3, hk3⟩ | ⟨rfl, hJx3⟩)
      · have e2 : zs.length - j = zs.length - (j + 1) + 1 := by omega
        have hx : bk zs zs.length (zs.length - (j + 1)) = ((j : Int), rd zs j) := by unfold bk; rw [show zs.length - 1 - (zs.length - (j + 1)) = j by omega]
        have hJ4 : J (upto (bk zs zs.length) (zs.length - j)) W3 := by rw [e2, upto_succ, hx]; exact hJ3
        clear e2 hx hJ3
        gi_wp2
        go_roundw
        case rel => exact ⟨j, by omega, by simp, hJ4, ⟨hnx2.out.trans hk3⟩⟩
        case measure => simp [intOf]
      · have e2 : zs.length - j = zs.length - (j + 1) + 1 := by omega
        have hx : bk zs zs.length (zs.length - (j + 1)) = ((j : Int), rd zs j) := by unfold bk; rw [show zs.length - 1 - (zs.length - (j + 1)) = j by omega]
        have hJ4 : Jx (upto (bk zs zs.length) (zs.length - j)) W3 := by rw [e2, upto_succ, hx]; exact hJx3
        clear e2 hx
        gi_wp2
        refine bodyPost_ret (results_none rfl _ _ _) rfl ?_
        exact ⟨⟨_, rfl⟩, .inr ⟨_, ⟨zs.length - j, by omega, rfl⟩, hJ4⟩⟩

set_option maxHeartbeats 1000000 in
theorem backward_in (F : Fence) (n : Nat) (h5 : F.fn 93) (hro : F.round = none) (a : Option Addr) (len cap : Nat) (w : World) :
    CallsIn F n Try.prog 93 #[.slice a len cap] w fun e w' => e = .returned (.func (.func 107) #[] #[.pointer (some ⟨w.heap.size, 0, none⟩)]) ∧ w' = w.alloc (.cells #[.slice a len cap] 22) := by
  refine callsIn_of_wp Try.func93 rfl h5 ?_ hro
  simp only [Try.ntmps93, List.size_toArray, List.length_cons, List.length_nil, Nat.reduceAdd, Nat.reduceSub, Array.replicate_succ, Array.replicate_zero, List.push_toArray, List.append_toArray, List.nil_append, List.cons_append]
  gi_wp2
  go_ret
  exact ⟨rfl, rfl⟩

theorem backward_stops (F : Fence) (n : Nat) (h7 : F.fn 107) (hro : F.round = none) (hn : 1 ≤ n) (Bs n₀ : Nat) (A0 : Option Addr) (cap : Nat) (zs : List Int) (hlen : zs.length < 17592186044416) (w : World) (hBs : Bs < w.heap.size) (hn₀ : n₀ ≤ w.heap.size)
    (hb : w.cell? ⟨Bs, 0, none⟩ = some (.slice A0 zs.length cap)) (hc : Kd.C (Kd.int .i64) w A0 zs.length zs) (hcb : ∀ ad, A0 = some ad → 0 < zs.length → ad.block < n₀) :
    SeqStopsK F n Try.prog 107 #[.pointer (some ⟨Bs, 0, none⟩)] (fun x : Int × Int => #[Value.int .i64 x.1, Value.int .i64 x.2]) (KB n₀ Bs) (fun ys => ys = upto (bk zs zs.length) zs.length)
      (fun pre => ∃ k, k ≤ zs.length ∧ pre = upto (bk zs zs.length) k) zs.length w := fun l J Jx W hW _ _ hY h0 =>
  backward1_in F n h7 hro hn l Bs n₀ A0 cap zs hlen J Jx hY W ((hW.cell (p := ⟨Bs, 0, none⟩) hBs).trans hb) (Kd.C_below hc hW) hcb h0

def calmB (o : Oper) : Bool := match o.op with
  | .load .. | .indexAddr .. | .binOp .. | .move .. | .buildSlice .. | .store .. => true
  | .call c => (match c.callee with | .builtin .len | .builtin .append => true | _ => false)
  | _ => false
theorem plain_v {s : Sem Value} {P : Program} {w : World} : Plain ((do pure (.value (← s)) : Sem Next).run P w) := by
  rw [Sem.run_bind]; exact plain_value
theorem plain_u {s : Sem Unit} {P : Program} {w : World} : Plain ((do s; pure .skip : Sem Next).run P w) := by
  rw [Sem.run_bind]; exact plain_skip
theorem calm_of (P : Program) (o : Oper) (h : calmB o = true) : Calm P o := by
  refine ⟨fun c e => (by rw [calmB, e] at h; cases h), fun ρ w => ?_⟩
  unfold calmB at h
  unfold execOp
  split at h
  · rename_i e; rw [e]; exact plain_v
  · rename_i e; rw [e]; exact plain_v
  · rename_i e; rw [e]; exact plain_v
  · rename_i e; rw [e]; trivial
  · rename_i e; rw [e]; exact plain_v
  · rename_i e; rw [e]; exact plain_u
  · rename_i c e; rw [e]
    split at h
    · rename_i e2
      simp only [resolve, e2, Sem.run_bind, Sem.run_pure, Result.andThen_ok, invoke, builtin]
      exact plain_value
    · rename_i e2
      simp only [resolve, e2, Sem.run_bind, Sem.run_pure, Result.andThen_ok, invoke, builtin]
      exact plain_value
    · cases h
  · cases h
theorem calm_all {P : Program} {ops : Array Oper} (h : ops.all calmB = true) : ∀ o ∈ ops, Calm P o := fun o ho => calm_of P o (Array.all_eq_true_iff_forall_mem.1 h o ho)

def mirrorW (l : List Int) : List Int := l.reverse.map fun n => wrap64 (wrap64 (rd l 0 + rd l (wrap64 ((l.length : Int) - 1))) - n)
def mir1 (l0 : List Int) (x : Int × Int) : Int := wrap64 (wrap64 (rd l0 0 + rd l0 (wrap64 ((l0.length : Int) - 1))) - x.2)
theorem mir_all (l : List Int) : (upto (bk l l.length) l.length).map (mir1 l) = mirrorW l := by
  apply List.ext_getElem
  · simp [upto, mirrorW]
  · intro i h1 h2
    have hi : i < l.length := by simp [upto] at h1; omega
    simp only [upto, mirrorW, List.getElem_map, List.getElem_range, List.getElem_reverse, mir1, bk]
    congr 1
    have e1 : rd l ((l.length - 1 - i : Nat) : Int) = l[l.length - 1 - i] := by
      simp only [rd, Int.toNat_natCast]
      rw [List.getD_eq_getElem?_getD, List.getElem?_eq_getElem (by omega)]
      rfl
    rw [e1]
def echo_mirror.f (l0 : List Int) : Option (List Int) := if l0.length < 17592186044415 then some (mirrorW l0) else none
set_option maxRecDepth 100000 in
set_option maxHeartbeats 4000000 in
theorem mirror_in (n : Nat) (hn : 3 ≤ n) (A0 : Option Addr) (c0 : Nat) (l0 : List Int) (w : World) (hr0 : Kd.C (Kd.int .i64) w A0 l0.length l0) (hlen : l0.length < 17592186044415) :
    CallsIn Fence.wide n Try.prog 67 #[.slice A0 l0.length c0] w fun e w' => ∃ v0_ : Value, e = .returned (v0_) ∧ Kd.R (Kd.int .i64) 3 w' w.heap.size (fun _ => True) v0_ ((upto (bk l0 l0.length) l0.length).map (mir1 l0)) ∧ Below w.heap.size w w' := by
  have h1 : 1 ≤ n := by omega
  refine callsIn_of_wp_marks Try.func67 rfl trivial ?_ rfl
  simp only [Try.ntmps67, List.size_toArray, List.length_cons, List.length_nil, Nat.reduceAdd, Nat.reduceSub, Array.replicate_succ, Array.replicate_zero, List.push_toArray, List.append_toArray, List.nil_append, List.cons_append]
  gi_wp2_with (refine ⟨trivial, ?_⟩; gi_at_call 93; refine (backward_in Fence.wide (n - 1) trivial rfl _ _ _ _).mono ?_; rintro e w' ⟨rfl, rfl⟩)
  have bC := Boxed.new w 22 (.slice A0 l0.length c0)
  have bO := Boxed.new (w.alloc (.cells #[.slice A0 l0.length c0] 22)) 22 (.slice none 0 0)
  have bN := Boxed.new ((w.alloc (.cells #[.slice A0 l0.length c0] 22)).alloc (.cells #[.slice none 0 0] 22)) 22 (.slice A0 l0.length c0)
  rw [World.size_alloc] at bO bN
  rw [World.size_alloc] at bN
  have hB0 : Below w.heap.size w (((w.alloc (.cells #[.slice A0 l0.length c0] 22)).alloc (.cells #[.slice none 0 0] 22)).alloc (.cells #[.slice A0 l0.length c0] 22)) := (((Below.refl _ w).alloc (Nat.le_refl _) _).alloc (by simp) _).alloc (by simp; omega) _
  have hcb : ∀ ad, A0 = some ad → 0 < l0.length → ad.block < w.heap.size := by
    intro ad hA hp
    obtain ⟨ad', hA', hc⟩ := Kd.at_int hr0 0 (by omega) (by omega)
    rw [hA] at hA'
    injection hA' with hA'
    subst hA'
    simpa [Addr.add] using World.block_lt_of_cell? w _ hc
  refine wpIn_rangeFunc_ownG rfl h1 (gf := 107) (lb := #[.pointer (some ⟨w.heap.size + 2, 0, none⟩)]) rfl trivial (enters_of Try.func107 (by kernel_rfl) rfl)
    (backward_stops Fence.wide (n - 1) trivial rfl (by omega) (w.heap.size + 2) w.heap.size A0 c0 l0 (by omega) _ (by simp) (by simp; omega) bN.cell (Kd.C_below hr0 hB0) hcb) KB.trans (fun W l o o' hl h h1' h2' => ⟨belowK_b (w := w) (Nat.le_refl _) W l o o' (by simp at hl; omega) h h1' h2', (grownBy_putObj' W l o').block (w.heap.size + 2) (by simp at hl; have := (Array.getElem?_eq_some_iff.1 h).1; omega) (fun e => by simp at hl; cases e; omega)⟩) (Below.refl _ _) (by intro _; rfl)
    (fun pre W => (((∃ v, Boxed W (w.heap.size + 1) 22 v ∧ W.ownsRow w.heap.size 3 1 v pre.length ((pre.map (mir1 l0)).map (Value.int .i64)) ∧ True) ∧ Boxed W w.heap.size 22 (.slice A0 l0.length c0)) ∧ Boxed W (w.heap.size + 2) 22 (.slice A0 l0.length c0)) ∧ Below w.heap.size w W)
    (fun _ _ _ => False)
    (OwnFrom.and (OwnFrom.and (OwnFrom.and (Own.from (holdsRow_own w.heap.size (w.heap.size + 1) 22 3 1 (fun (pre : List (Int × Int)) => pre.length) (fun pre => (pre.map (mir1 l0)).map (Value.int .i64)) (fun _ _ => True)) _) (Own.from (boxed_own w.heap.size 22 (fun (_ : List (Int × Int)) => .slice A0 l0.length c0)) _)) (Own.from (boxed_own (w.heap.size + 2) 22 (fun (_ : List (Int × Int)) => .slice A0 l0.length c0)) _)) (ownFrom_below (Nat.le_refl _) (by simp; omega)))
    (fun _ _ _ _ _ hs _ _ => hs)
    ⟨⟨⟨⟨_, bO.alloc _, World.ownsRow_nil _ _ _ _, trivial⟩, (bC.alloc _).alloc _⟩, bN⟩, hB0⟩
    (fun x => { tmps := #[.slice A0 l0.length c0, .pointer (some ⟨w.heap.size, 0, none⟩), .slice none 0 0, .pointer (some ⟨w.heap.size + 1, 0, none⟩), undef, .int .i64 x.2, .slice A0 l0.length c0, .func (.func 107) #[] #[.pointer (some ⟨w.heap.size + 2, 0, none⟩)], .int .i64 x.1, .int .i64 x.2, undef, undef, undef, undef, undef, undef, undef, undef, undef, undef, undef, undef, undef, undef, undef, undef], defers := [] }) ?assign ?body ?done ?stop
  case assign =>
    intro l x W K hK
    gi_wp2
    exact hK
  case body =>
    rintro l pre x W ⟨⟨⟨⟨v, hv, hrow, _⟩, hbc⟩, hbn⟩, hB⟩ hlt
    obtain ⟨ad, hA, h00⟩ := Kd.at_int hr0 0 (by omega) (by omega)
    subst hA
    obtain ⟨ji, hji⟩ : ∃ j_ : Int, wrap64 ((l0.length : Int) - 1) = j_ := ⟨_, rfl⟩
    have hjiw : IntKind.i64.wrap ((l0.length : Int) - 1) = ji := (i64_w _).trans hji
    have hjv : Aside0 (ji = (l0.length : Int) - 1) := ⟨by rw [← hji]; unfold wrap64; omega⟩
    obtain ⟨ad', hA', h0n⟩ := Kd.at_int hr0 ji (by have := hjv.out; omega) (by have := hjv.out; omega)
    obtain rfl : ad = ad' := by injection hA'
    have pj : (0 ≤ ji) = True := eq_true (by have := hjv.out; omega)
    have qj : (ji < (l0.length : Int)) = True := eq_true (by have := hjv.out; omega)
    have p0 : ((0 : Int) < (l0.length : Int)) = True := eq_true (by omega)
    have p1 : (0 < l0.length) = True := eq_true (by omega)
    have hab := Aside0.mk (hcb ad rfl (by omega))
    have hab2 : Aside0 ((ad.add ji.toNat).block < w.heap.size) := ⟨by have := hab.out; unfold Addr.add; split <;> exact this⟩
    have h00 : Aside0 (w.cell? ad = some (.int .i64 (rd l0 0))) := ⟨by simpa [Addr.add] using h00⟩
    have h0n := Aside0.mk h0n
    have hL9 : Aside0 ((pre.map (mir1 l0)).length < 17592186044415) := ⟨by rw [List.length_map]; omega⟩
    have hv9 : Aside0 (Boxed W.drew (w.heap.size + 1) 22 v) := ⟨hv⟩
    have hbc9 : Aside0 (Boxed W.drew w.heap.size 22 (.slice (some ad) l0.length c0)) := ⟨hbc⟩
    have hbn9 : Aside0 (Boxed W.drew (w.heap.size + 2) 22 (.slice (some ad) l0.length c0)) := ⟨hbn⟩
    have hB9 : Aside0 (Below w.heap.size w W.drew) := ⟨hB.drew⟩
    have hrow9 : Aside0 (W.drew.ownsRow w.heap.size 3 1 v pre.length ((pre.map (mir1 l0)).map (Value.int .i64))) := ⟨hrow⟩
    have ho9 : Aside0 (Kd.R (Kd.int .i64) 3 W.drew w.heap.size (fun _ => True) v (pre.map (mir1 l0))) := ⟨r_of_own (by rw [List.length_map]; exact hrow) (fun _ _ => trivial)⟩
    have hS9 : W.drew.cell? ⟨w.heap.size + 1, 0, none⟩ = some v ∧ W.drew.cell? ⟨w.heap.size, 0, none⟩ = some (.slice (some ad) l0.length c0) ∧ W.drew.cell? ad = some (.int .i64 (rd l0 0)) ∧ W.drew.cell? (ad.add (ji).toNat) = some (.int .i64 (rd l0 ji)) :=
      ⟨hv9.out.cell, hbc9.out.cell, (hB9.out.cell hab.out).trans h00.out, (hB9.out.cell hab2.out).trans h0n.out⟩
    have hko : Aside0 (KeepsOthers W W.drew) := ⟨KeepsOthers.drew W⟩
    have hkb : Aside0 (KB w.heap.size (w.heap.size + 2) W W.drew) := ⟨(Below.refl _ _).drew, rfl⟩
    have hji2 := Aside0.mk hji
    clear hv hbc hbn hB hrow hA'
    gi_wp2
    refine wpIn_mono (Q := fun e a' w' => e = .normal ∧ (KeepsFrom (w.heap.size + 3) W w' ∧ KB w.heap.size (w.heap.size + 2) W w' ∧ ((((∃ v, Boxed w' (w.heap.size + 1) 22 v ∧ w'.ownsRow w.heap.size 3 1 v (pre ++ [x]).length (((pre ++ [x]).map (mir1 l0)).map (Value.int .i64)) ∧ True) ∧ Boxed w' w.heap.size 22 (.slice (some ad) l0.length c0)) ∧ Boxed w' (w.heap.size + 2) 22 (.slice (some ad) l0.length c0)) ∧ Below w.heap.size w w'))) ?_ (by rintro e a' w' ⟨rfl, hk_, hrest_⟩; exact (show KeepsFrom _ _ _ ∧ _ from ⟨by simpa using hk_, hrest_⟩))
    refine startIn_ (n := 16) (S := fun w' => w'.cell? ⟨w.heap.size + 1, 0, none⟩ = some v ∧ w'.cell? ⟨w.heap.size, 0, none⟩ = some (.slice (some ad) l0.length c0) ∧ w'.cell? ad = some (.int .i64 (rd l0 0)) ∧ w'.cell? (ad.add (ji).toNat) = some (.int .i64 (rd l0 ji))) (ds := [15]) #[false, false, false, false, false, false, false, false, false, false, false, false, false, false, false, false] (fun _ => trivial) (calm_all (by kernel_rfl)) (by rintro ⟨_, _, h⟩; cases h.1) (by kernel_rfl) rfl rfl hS9 (fun hHeld => ?_)
    generalize W.drew = w9 at hv9 hbc9 hbn9 hB9 hrow9 ho9 hko hkb hHeld ⊢
    refine pure_ (i := 11) (N := some 21) (v := ?_) (a' := ?_) #[false, false, false, false, false, false, false, false, false, false, false, true, false, false, false, false] rfl rfl (by kernel_rfl) (fun _ _ _ h => h) (Or.inl ⟨by rfl, ?_⟩) ?_ ?_
    rotate_left
    · intro w'
      go_simp
      with_reducible rfl
    rotate_left
    · simp only [Act.put, List.setIfInBounds_toArray, List.set_cons_zero, List.set_cons_succ, i64_w, i32_w]
      rfl
    refine take_ (i := 0) (N := some 10) (v := ?_) (a' := ?_) #[true, false, false, false, false, false, false, false, false, false, false, true, false, false, false, false] rfl rfl (by kernel_rfl) (fun _ _ _ h => h) (Or.inl ⟨by rfl, ?_⟩) hHeld ?_ ?_
    rotate_left
    · rintro w' ⟨s0, s1, s2, s3⟩
      go_simp
      with_reducible rfl
    rotate_left
    · simp only [Act.put, List.setIfInBounds_toArray, List.set_cons_zero, List.set_cons_succ, i64_w, i32_w]
      rfl
    refine take_ (i := 1) (N := some 11) (v := ?_) (a' := ?_) #[true, true, false, false, false, false, false, false, false, false, false, true, false, false, false, false] rfl rfl (by kernel_rfl) (fun _ _ _ h => h) (Or.inl ⟨by rfl, ?_⟩) hHeld ?_ ?_
    rotate_left
    · rintro w' ⟨s0, s1, s2, s3⟩
      go_simp
      with_reducible rfl
    rotate_left
    · simp only [Act.put, List.setIfInBounds_toArray, List.set_cons_zero, List.set_cons_succ, i64_w, i32_w]
      rfl
    refine pure_ (i := 2) (N := some 12) (v := ?_) (a' := ?_) #[true, true, true, false, false, false, false, false, false, false, false, true, false, false, false, false] rfl rfl (by kernel_rfl) (fun _ _ _ h => h) (Or.inl ⟨by rfl, ?_⟩) ?_ ?_
    rotate_left
    · intro w'
      go_simp
      with_reducible rfl
    rotate_left
    · simp only [Act.put, List.setIfInBounds_toArray, List.set_cons_zero, List.set_cons_succ, i64_w, i32_w]
      rfl
    refine take_ (i := 3) (N := some 13) (v := ?_) (a' := ?_) #[true, true, true, true, false, false, false, false, false, false, false, true, false, false, false, false] rfl rfl (by kernel_rfl) (fun _ _ _ h => h) (Or.inl ⟨by rfl, ?_⟩) hHeld ?_ ?_
    rotate_left
    · rintro w' ⟨s0, s1, s2, s3⟩
      go_simp
      with_reducible rfl
    rotate_left
    · simp only [Act.put, List.setIfInBounds_toArray, List.set_cons_zero, List.set_cons_succ, i64_w, i32_w]
      rfl
    refine take_ (i := 4) (N := some 14) (v := ?_) (a' := ?_) #[true, true, true, true, true, false, false, false, false, false, false, true, false, false, false, false] rfl rfl (by kernel_rfl) (fun _ _ _ h => h) (Or.inl ⟨by rfl, ?_⟩) hHeld ?_ ?_
    rotate_left
    · rintro w' ⟨s0, s1, s2, s3⟩
      go_simp
      with_reducible rfl
    rotate_left
    · simp only [Act.put, List.setIfInBounds_toArray, List.set_cons_zero, List.set_cons_succ, i64_w, i32_w]
      rfl
    refine take_ (i := 5) (N := some 15) (v := ?_) (a' := ?_) #[true, true, true, true, true, true, false, false, false, false, false, true, false, false, false, false] rfl rfl (by kernel_rfl) (fun _ _ _ h => h) (Or.inl ⟨by rfl, ?_⟩) hHeld ?_ ?_
    rotate_left
    · rintro w' ⟨s0, s1, s2, s3⟩
      go_simp
      with_reducible rfl
    rotate_left
    · simp only [Act.put, List.setIfInBounds_toArray, List.set_cons_zero, List.set_cons_succ, i64_w, i32_w]
      rfl
    refine pure_ (i := 6) (N := some 16) (v := ?_) (a' := ?_) #[true, true, true, true, true, true, true, false, false, false, false, true, false, false, false, false] rfl rfl (by kernel_rfl) (fun _ _ _ h => h) (Or.inl ⟨by rfl, ?_⟩) ?_ ?_
    rotate_left
    · intro w'
      go_simp
      with_reducible rfl
    rotate_left
    · simp only [Act.put, List.setIfInBounds_toArray, List.set_cons_zero, List.set_cons_succ, i64_w, i32_w]
      rfl
    refine pure_ (i := 7) (N := some 17) (v := ?_) (a' := ?_) #[true, true, true, true, true, true, true, true, false, false, false, true, false, false, false, false] rfl rfl (by kernel_rfl) (fun _ _ _ h => h) (Or.inl ⟨by rfl, ?_⟩) ?_ ?_
    rotate_left
    · intro w'
      go_simp
      with_reducible rfl
    rotate_left
    · simp only [Act.put, List.setIfInBounds_toArray, List.set_cons_zero, List.set_cons_succ, i64_w, i32_w]
      rfl
    refine pure_ (i := 8) (N := some 18) (v := ?_) (a' := ?_) #[true, true, true, true, true, true, true, true, true, false, false, true, false, false, false, false] rfl rfl (by kernel_rfl) (fun _ _ _ h => h) (Or.inl ⟨by rfl, ?_⟩) ?_ ?_
    rotate_left
    · intro w'
      go_simp
      with_reducible rfl
    rotate_left
    · simp only [Act.put, List.setIfInBounds_toArray, List.set_cons_zero, List.set_cons_succ, i64_w, i32_w]
      rfl
    refine take_ (i := 9) (N := some 19) (v := ?_) (a' := ?_) #[true, true, true, true, true, true, true, true, true, true, false, true, false, false, false, false] rfl rfl (by kernel_rfl) (fun _ _ _ h => h) (Or.inl ⟨by rfl, ?_⟩) hHeld ?_ ?_
    rotate_left
    · rintro w' ⟨s0, s1, s2, s3⟩
      go_simp
      with_reducible rfl
    rotate_left
    · simp only [Act.put, List.setIfInBounds_toArray, List.set_cons_zero, List.set_cons_succ, i64_w, i32_w]
      rfl
    refine pure_ (i := 10) (N := some 20) (v := ?_) (a' := ?_) #[true, true, true, true, true, true, true, true, true, true, true, true, false, false, false, false] rfl rfl (by kernel_rfl) (fun _ _ _ h => h) (Or.inl ⟨by rfl, ?_⟩) ?_ ?_
    rotate_left
    · intro w'
      go_simp
      with_reducible rfl
    rotate_left
    · simp only [Act.put, List.setIfInBounds_toArray, List.set_cons_zero, List.set_cons_succ, i64_w, i32_w]
      rfl
    refine pure_ (i := 12) (N := some 22) (v := ?_) (a' := ?_) #[true, true, true, true, true, true, true, true, true, true, true, true, true, false, false, false] rfl rfl (by kernel_rfl) (fun _ _ _ h => h) (Or.inl ⟨by rfl, ?_⟩) ?_ ?_
    rotate_left
    · intro w'
      go_simp
      with_reducible rfl
    rotate_left
    · simp only [Act.put, List.setIfInBounds_toArray, List.set_cons_zero, List.set_cons_succ, i64_w, i32_w]
      rfl
    refine one_ (i := 13) (N := some 23) #[true, true, true, true, true, true, true, true, true, true, true, true, true, true, false, false] rfl rfl (by kernel_rfl) (by decide) (fun K hK => ?_)
    refine value_ (w1 := ?_) (v := ?_) (by rfl) rfl ?_ ?_
    rotate_left 2
    · go_simp
      constructor
      · rfl
      · rfl
    refine hK.out _ _ ⟨(World.cell?_alloc_lt _ _ _ (World.block_lt_of_cell? _ _ (hHeld.1))).trans (hHeld.1), (World.cell?_alloc_lt _ _ _ (World.block_lt_of_cell? _ _ (hHeld.2.1))).trans (hHeld.2.1), (World.cell?_alloc_lt _ _ _ (World.block_lt_of_cell? _ _ (hHeld.2.2.1))).trans (hHeld.2.2.1), (World.cell?_alloc_lt _ _ _ (World.block_lt_of_cell? _ _ (hHeld.2.2.2))).trans (hHeld.2.2.2)⟩ (fun hHeld => ?_)
    clear hK K
    refine norm_ (a' := ?_) ?_ ?_
    rotate_left
    · show Act.put _ (some 23) _ = _
      simp only [Act.put, List.setIfInBounds_toArray, List.set_cons_zero, List.set_cons_succ, i64_w, i32_w]
      rfl
    refine one_ (i := 14) (N := some 24) #[true, true, true, true, true, true, true, true, true, true, true, true, true, true, true, false] rfl rfl (by kernel_rfl) (by decide) (fun K hK => ?_)
    refine Kd.R_append_step (Kd.int .i64) (w0 := w) w.heap.size (by rfl) (.tmp 10) (.tmp 23) 22 3 (.int .i64 0) 8 rfl Try.underlying22 info3 rfl (by decide) (by omega) v (pre.map (mir1 l0)) (wrap64 (wrap64 (rd l0 0 + rd l0 ji) - x.2)) [.int .i64 (wrap64 (wrap64 (rd l0 0 + rd l0 ji) - x.2))] (fun _ => True) (fun _ => False) rfl rfl ?aP (fun _ hk => hk.elim) ?aF ?aO ?aB ?aS ?aL ?_
    (case aP => exact rfl)
    (case aF => exact (fun _ _ => trivial))
    (case aO => exact ho9.out)
    (case aB => exact hB9.out)
    (case aS => exact hB9.out.size)
    (case aL => have := hL9.out; omega)
    intro v1 w2 ho1 hb1 hg1 _
    obtain ⟨Av1, cv1, ev1⟩ := Kd.R_slice ho1
    subst ev1
    have ha1 := Aside0.mk (hv9.out.kept hg1 (hv9.out.not_row (by decide) hrow9.out))
    have ha2 := Aside0.mk (hbc9.out.kept hg1 (hbc9.out.not_row (by decide) hrow9.out))
    have ha3 := Aside0.mk (hbn9.out.kept hg1 (hbn9.out.not_row (by decide) hrow9.out))
    have ho1 := Aside0.mk ho1
    have hb1 := Aside0.mk hb1
    have hg1 := Aside0.mk hg1
    have hc1_ := ha1.out.cell
    have hf1_ := ha1.out.frozen
    refine hK.out _ _ ⟨ha1.out.cell, ha2.out.cell, (hb1.out.cell hab.out).trans h00.out, (hb1.out.cell hab2.out).trans h0n.out⟩ (fun hHeld => ?_)
    clear hK K
    refine norm_ (a' := ?_) ?_ ?_
    rotate_left
    · show Act.put _ (some 24) _ = _
      simp only [Act.put, List.setIfInBounds_toArray, List.set_cons_zero, List.set_cons_succ, i64_w, i32_w]
      rfl
    refine last_ (i := 15) (N := none) #[true, true, true, true, true, true, true, true, true, true, true, true, true, true, true, true] rfl rfl (by kernel_rfl) (by decide) (fun K hK => ?_)
    refine skip_ (w1 := ?_) (by rfl) rfl ?_ ?_
    rotate_left
    · go_simp
      rfl
    refine hK.out _ _ ?_
    clear hK K
    refine done_ (by kernel_rfl) ?_

    have hkf := KeepsOthers.of_grownBy hg1.out (fun j o e_ ho_ => by
      obtain ⟨cells, hc_⟩ := own_typed hrow9.out j e_
      rw [hc_] at ho_
      cases ho_
      rfl)
    have hset : Below w.heap.size w2 (w2.setCell ⟨w.heap.size + 1, 0, none⟩ (.slice Av1 (pre.length + 1) cv1)) := (Below.refl _ _).setCell (by simp) _
    have hb12 : Below w.heap.size w9 w2 := ⟨hg1.out.os, hg1.out.tape, hg1.out.output, hg1.out.size, fun k hk => (hb1.out.block k hk).trans (hB9.out.block k hk).symm⟩
    have hmap : (pre ++ [x]).map (mir1 l0) = pre.map (mir1 l0) ++ [wrap64 (wrap64 (rd l0 0 + rd l0 ji) - x.2)] := by rw [List.map_append, ← hji2.out]; rfl
    have hone : w2.heap[w.heap.size + 1]? = some (.cells #[v] 22 (0, 0)) := ha1.out
    have hset1 : Boxed (w2.setCell ⟨w.heap.size + 1, 0, none⟩ (.slice Av1 (pre.length + 1) cv1)) (w.heap.size + 1) 22 (.slice Av1 (pre.length + 1) cv1) := ha1.out.set _
    refine ⟨rfl, ?_, ?_, ⟨⟨⟨_, hset1, ?_, trivial⟩, ha2.out.other (by omega) _⟩, ha3.out.other (by omega) _⟩, hb1.out.trans hset⟩
    · exact ((hko.out.trans hkf).trans (KeepsOthers.setCell _ _ _)).from _
    · exact hkb.out.trans (KB.trans ⟨hb12, (ha3.out : w2.heap[w.heap.size + 2]? = _).trans (hbn9.out : w9.heap[w.heap.size + 2]? = _).symm⟩ ⟨hset, Below.heap_setCell _ _ _ _ (by simp)⟩)
    · rw [hmap]
      have hln : (pre.map (mir1 l0) ++ [wrap64 (wrap64 (rd l0 0 + rd l0 ji) - x.2)]).length = pre.length + 1 := by simp
      have ho1 := ho1.out
      rw [hln] at ho1
      have ho2 := Kd.own_of_R (Kd.R_set ho1 hone (by intro q hq; simp [Kd.int, Kd.scalar] at hq; omega) 0 (.slice Av1 (pre.length + 1) cv1))
      simpa [encs] using ho2
  case done =>
    rintro D ys W hD rfl ⟨⟨⟨⟨v, hv, hrow, _⟩, _⟩, _⟩, hB⟩ hK
    have hc := hv.cell
    gi_wp2
    refine ⟨by simp, .inl ⟨_, _, rfl, run_takeDeferred hK, ?_⟩⟩
    have hrow' := ownsRow_putObj hrow (.deferred none) hK rfl
    refine ⟨_, results_tmp rfl _ _ _, v, rfl, ?_, hB.trans (belowK_b (w := w) (Nat.le_refl _) W D _ _ (by simp at hD; omega) hK rfl rfl)⟩
    exact r_of_own (by rw [List.length_map]; exact hrow') (fun _ _ => trivial)
  case stop =>
    rintro D c pre W _ _ h _
    exact h.elim
theorem echo_mirror.calls (A0 : Option Addr) (c0 : Nat) (l0 : List Int) (r : List Int) (w : World) (hr0 : Kd.C (Kd.int .i64) w A0 l0.length l0) (hc0 : l0.length ≤ c0) (h : echo_mirror.f l0 = some r) :
    Calls Try.prog 67 #[.slice A0 l0.length c0] w fun e w' => ∃ v0_ : Value, e = .returned (v0_) ∧ Kd.R (Kd.int .i64) 3 w' w.heap.size (fun _ => True) v0_ r ∧ Below w.heap.size w w' := by
  unfold echo_mirror.f at h
  split at h
  · obtain rfl := Option.some.inj h
    rw [← mir_all]
    exact (callsIn_wide (n := 3)).1 (mirror_in 3 (Nat.le_refl _) A0 c0 l0 w hr0 (by assumption))
  · cases h
end Go.Proofs.Ytlbhedhbakhhlaa.Q

namespace Go.Proofs.Ytlbhedhbakhhlaa.Q
open Go.RowKit Go.Proofs.YtlbhedhbakhhlaaW.PrintWords Go.Proofs.YtlbhedhbakhhlaaW.PrintLast Go.Proofs.YtlbhedhbakhhlaaW.PrintMore
attribute [local go_sem] max2_int min2_int max_two min_two max_three min_three max_four min_four   -- for this text's walks alone
set_option linter.unusedVariables false
set_option linter.unusedSimpArgs false

/-! ### echo_normal: function 61 -/
def echo_normal.f (k : Nat) (l0 : List Int) : Option (List Int) := if 0 < (l0.length : Int) then ((echo_shift.f k l0 (wrap64 (-(rd l0 0)))).bind fun t102 => ((echo_mirror.f t102).bind fun t105 => ((slices_Compare_int_int.f k t105 t102).bind fun t108 => (if t108 < 0 then (some t105) else (some t102))))) else (none)
theorem echo_normal.mono : ∀ a0 k, LeO (echo_normal.f k a0) (echo_normal.f (k + 1) a0) := by
  intro a0 k
  unfold echo_normal.f
  repeat' first
      | (with_reducible exact echo_shift.mono _ _ _)
      | (with_reducible exact slices_Compare_int_int.mono _ _ _)
      | (with_reducible exact LeO.refl _)
      | (with_reducible exact LeO.none _)
      | (with_reducible refine LeO.ite ?_ ?_)
      | (with_reducible refine LeO.bind ?_ (fun _ => ?_))
      | exact echo_shift.mono _ _ _
      | exact slices_Compare_int_int.mono _ _ _
      | exact LeO.none _
      | refine LeO.ite ?_ ?_
      | refine LeO.bind ?_ (fun _ => ?_)
set_option maxHeartbeats 8000000 in
set_option maxRecDepth 100000 in
theorem echo_normal.calls (k : Nat) (A0 : Option Addr) (c0 : Nat) (l0 : List Int) (r : List Int) (w : World) (hr0 : Kd.C (Kd.int .i64) w A0 l0.length l0) (hc0 : l0.length ≤ c0) (h : echo_normal.f k l0 = some r) :
    Calls Try.prog 61 #[.slice A0 l0.length c0] w fun e w' => ∃ v0_ : Value, e = .returned (v0_) ∧ Kd.R (Kd.int .i64) 3 w' w.heap.size (fun _ => True) v0_ r ∧ Below w.heap.size w w' := by
  have HR0 := Aside0.mk hr0
  have HC0 := Aside0.mk hc0
  clear hr0 hc0
  have HB := Aside0.mk (Below.refl w.heap.size w)
  have H : (if 0 < (l0.length : Int) then ((echo_shift.f k l0 (wrap64 (-(rd l0 0)))).bind fun t102 => ((echo_mirror.f t102).bind fun t105 => ((slices_Compare_int_int.f k t105 t102).bind fun t108 => (if t108 < 0 then (some t105) else (some t102))))) else (none)) = some r := h
  clear h
  by_cases c2 : 0 < (l0.length : Int)
  · rw [if_pos c2] at H
    have c2b0 : decide (0 < (l0.length : Int)) = true := decide_eq_true c2
    have c2b1 : decide (0 < l0.length) = true := decide_eq_true (by omega)
    clear c2
    replace H := Option.bind_eq_some_iff.mp H
    obtain ⟨t102, A30, H⟩ := H
    replace H : ((echo_mirror.f t102).bind fun t105 => ((slices_Compare_int_int.f k t105 t102).bind fun t108 => (if t108 < 0 then (some t105) else (some t102)))) = some r := H
    have A3 := Aside0.mk A30
    clear A30
    replace H := Option.bind_eq_some_iff.mp H
    obtain ⟨t105, A40, H⟩ := H
    replace H : ((slices_Compare_int_int.f k t105 t102).bind fun t108 => (if t108 < 0 then (some t105) else (some t102))) = some r := H
    have A4 := Aside0.mk A40
    clear A40
    replace H := Option.bind_eq_some_iff.mp H
    obtain ⟨t108, A50, H⟩ := H
    replace H : (if t108 < 0 then (some t105) else (some t102)) = some r := H
    have A5 := Aside0.mk A50
    clear A50
    by_cases c6 : t108 < 0
    · rw [if_pos c6] at H
      have c6b0 : decide (t108 < 0) = true := decide_eq_true c6
      clear c6
      obtain rfl := Option.some.inj H
      have p101 : 0 ≤ (0 : Int) := (by omega)
      have q101 : 0 < (l0.length : Int) := of_decide_eq_true (by first | (with_reducible assumption) | assumption)
      obtain ⟨ad101, e101, hx101_0⟩ := Kd.at_int HR0.out 0 p101 q101
      cases e101
      have qi101 : (0 < l0.length) = True := eq_true (by omega)
      (try rw [show ((0 : Int)).toNat = 0 from rfl] at hx101_0)
      (try rw [Addr.add_zero'] at hx101_0)
      replace p101 := eq_true p101
      replace q101 := eq_true q101
      go_enter Try.func61, Try.ntmps61
      go_wp2_with (first | ((with_reducible refine gate_callee (f := 63) rfl ?_); refine goesL_ (some 10) rfl rfl Try.func63 (by kernel_rfl) rfl #[.slice (some ad101) l0.length c0, .int .i64 (wrap64 (-(rd l0 0)))] rfl (by (try simp only [List.map_toArray, List.map_cons, List.map_nil]); first | done | rfl | (simp only [List.length_drop, List.length_take]; rfl)) ?_; (with_reducible refine (echo_shift.calls k _ _ l0 (wrap64 (-(rd l0 0))) t102 _ ?side1 ?side2 A3.out).mono ?_); (case side1 => repeat (first | exact HR0.out | (with_reducible refine Kd.C_alloc ?_ _) | (with_reducible refine Kd.C_drewN ?_ _) | (with_reducible refine Kd.C_drew ?_))); (case side2 => exact HC0.out); rintro e w7 ⟨v103, rfl, ho0, hb⟩; refine ⟨_, rfl, ?_⟩; have n0_ := Aside0.mk (Kd.R_lower ho0 (below_size (by repeat (first | (with_reducible first | exact HB.out | apply below_alloc | apply pw_below_drewN | apply below_drew1) | exact HB.out)))); have n1_ := Aside0.mk (below_step (by repeat (first | (with_reducible first | exact HB.out | apply below_alloc | apply pw_below_drewN | apply below_drew1) | exact HB.out)) hb); clear HB; have HO104 := n0_; have HB := n1_; clear n0_ n1_; (try clear hb); (try clear hb2); (try clear hk); (try clear hi); (try clear ho0); obtain ⟨Ao8, co8, eo8⟩ := Kd.R_slice HO104.out; subst eo8) | ((with_reducible refine gate_callee (f := 67) rfl ?_); refine goesL_ (some 12) rfl rfl Try.func67 (by kernel_rfl) rfl #[.slice Ao8 t102.length co8] rfl (by (try simp only [List.map_toArray, List.map_cons, List.map_nil]); first | done | rfl | (simp only [List.length_drop, List.length_take]; rfl)) ?_; (with_reducible refine (echo_mirror.calls _ _ t102 t105 _ ?side1 ?side2 A4.out).mono ?_); (case side1 => repeat (first | exact (Kd.R_reads' HO104.out).2.2 | (with_reducible refine Kd.C_alloc ?_ _) | (with_reducible refine Kd.C_drewN ?_ _) | (with_reducible refine Kd.C_drew ?_))); (case side2 => exact (Kd.R_reads' HO104.out).2.1); rintro e w9 ⟨v106, rfl, ho0, hb⟩; refine ⟨_, rfl, ?_⟩; have n0_ := Aside0.mk (Kd.R_elder' (by (with_reducible repeat (first | apply Kd.R_alloc | apply Kd.R_drewN | apply Kd.R_drew)); exact HO104.out) (Kd.R_base ho0) hb); have n1_ := Aside0.mk (Kd.R_lower (Kd.R_new' ho0 (Kd.R_lt (by (with_reducible repeat (first | apply Kd.R_alloc | apply Kd.R_drewN | apply Kd.R_drew)); exact HO104.out))) (below_size (by repeat (first | (with_reducible first | exact HB.out | apply below_alloc | apply pw_below_drewN | apply below_drew1) | exact HB.out)))); have n2_ := Aside0.mk (below_step (by repeat (first | (with_reducible first | exact HB.out | apply below_alloc | apply pw_below_drewN | apply below_drew1) | exact HB.out)) hb); clear HO104; clear HB; have HO104 := n0_; have HO107 := n1_; have HB := n2_; clear n0_ n1_ n2_; (try clear hb); (try clear hb2); (try clear hk); (try clear hi); (try clear ho0); obtain ⟨Ao10, co10, eo10⟩ := Kd.R_slice HO107.out; subst eo10) | ((with_reducible refine gate_callee (f := 87) rfl ?_); refine goesL_ (some 15) rfl rfl Try.func87 (by kernel_rfl) rfl #[.slice Ao10 t105.length co10, .slice Ao8 t102.length co8] rfl (by (try simp only [List.map_toArray, List.map_cons, List.map_nil]); first | done | rfl | (simp only [List.length_drop, List.length_take]; rfl)) ?_; (with_reducible refine (slices_Compare_int_int.calls k _ _ t105 _ _ t102 t108 _ ?side1 ?side2 ?side3 ?side4 A5.out).mono ?_); (case side1 => repeat (first | exact (Kd.R_reads' HO107.out).2.2 | (with_reducible refine Kd.C_alloc ?_ _) | (with_reducible refine Kd.C_drewN ?_ _) | (with_reducible refine Kd.C_drew ?_))); (case side2 => exact (Kd.R_reads' HO107.out).2.1); (case side3 => repeat (first | exact (Kd.R_reads' HO104.out).2.2 | (with_reducible refine Kd.C_alloc ?_ _) | (with_reducible refine Kd.C_drewN ?_ _) | (with_reducible refine Kd.C_drew ?_))); (case side4 => exact (Kd.R_reads' HO104.out).2.1); rintro e w' ⟨rfl, ⟨nd, rfl⟩⟩; refine ⟨_, rfl, ?_⟩))
      go_ret
      exact ⟨_, by first | rfl | (simp [errW_none, errW_some] <;> rfl) | (simp [*, errW_none, errW_some] <;> rfl), by (with_reducible repeat (first | apply Kd.R_alloc | apply Kd.R_drewN | apply Kd.R_drew)); exact Kd.R_mono HO107.out (fun _ hk => trivial), by repeat (first | (with_reducible first | exact HB.out | apply below_alloc | apply pw_below_drewN | apply below_drew1) | exact HB.out)⟩
    · rw [if_neg c6] at H
      have c6b0 : decide (t108 < 0) = false := decide_eq_false c6
      clear c6
      obtain rfl := Option.some.inj H
      have p101 : 0 ≤ (0 : Int) := (by omega)
      have q101 : 0 < (l0.length : Int) := of_decide_eq_true (by first | (with_reducible assumption) | assumption)
      obtain ⟨ad101, e101, hx101_0⟩ := Kd.at_int HR0.out 0 p101 q101
      cases e101
      have qi101 : (0 < l0.length) = True := eq_true (by omega)
      (try rw [show ((0 : Int)).toNat = 0 from rfl] at hx101_0)
      (try rw [Addr.add_zero'] at hx101_0)
      replace p101 := eq_true p101
      replace q101 := eq_true q101
      go_enter Try.func61, Try.ntmps61
      go_wp2_with (first | ((with_reducible refine gate_callee (f := 63) rfl ?_); refine goesL_ (some 10) rfl rfl Try.func63 (by kernel_rfl) rfl #[.slice (some ad101) l0.length c0, .int .i64 (wrap64 (-(rd l0 0)))] rfl (by (try simp only [List.map_toArray, List.map_cons, List.map_nil]); first | done | rfl | (simp only [List.length_drop, List.length_take]; rfl)) ?_; (with_reducible refine (echo_shift.calls k _ _ l0 (wrap64 (-(rd l0 0))) t102 _ ?side1 ?side2 A3.out).mono ?_); (case side1 => repeat (first | exact HR0.out | (with_reducible refine Kd.C_alloc ?_ _) | (with_reducible refine Kd.C_drewN ?_ _) | (with_reducible refine Kd.C_drew ?_))); (case side2 => exact HC0.out); rintro e w11 ⟨v103, rfl, ho0, hb⟩; refine ⟨_, rfl, ?_⟩; have n0_ := Aside0.mk (Kd.R_lower ho0 (below_size (by repeat (first | (with_reducible first | exact HB.out | apply below_alloc | apply pw_below_drewN | apply below_drew1) | exact HB.out)))); have n1_ := Aside0.mk (below_step (by repeat (first | (with_reducible first | exact HB.out | apply below_alloc | apply pw_below_drewN | apply below_drew1) | exact HB.out)) hb); clear HB; have HO104 := n0_; have HB := n1_; clear n0_ n1_; (try clear hb); (try clear hb2); (try clear hk); (try clear hi); (try clear ho0); obtain ⟨Ao12, co12, eo12⟩ := Kd.R_slice HO104.out; subst eo12) | ((with_reducible refine gate_callee (f := 67) rfl ?_); refine goesL_ (some 12) rfl rfl Try.func67 (by kernel_rfl) rfl #[.slice Ao12 t102.length co12] rfl (by (try simp only [List.map_toArray, List.map_cons, List.map_nil]); first | done | rfl | (simp only [List.length_drop, List.length_take]; rfl)) ?_; (with_reducible refine (echo_mirror.calls _ _ t102 t105 _ ?side1 ?side2 A4.out).mono ?_); (case side1 => repeat (first | exact (Kd.R_reads' HO104.out).2.2 | (with_reducible refine Kd.C_alloc ?_ _) | (with_reducible refine Kd.C_drewN ?_ _) | (with_reducible refine Kd.C_drew ?_))); (case side2 => exact (Kd.R_reads' HO104.out).2.1); rintro e w13 ⟨v106, rfl, ho0, hb⟩; refine ⟨_, rfl, ?_⟩; have n0_ := Aside0.mk (Kd.R_elder' (by (with_reducible repeat (first | apply Kd.R_alloc | apply Kd.R_drewN | apply Kd.R_drew)); exact HO104.out) (Kd.R_base ho0) hb); have n1_ := Aside0.mk (Kd.R_lower (Kd.R_new' ho0 (Kd.R_lt (by (with_reducible repeat (first | apply Kd.R_alloc | apply Kd.R_drewN | apply Kd.R_drew)); exact HO104.out))) (below_size (by repeat (first | (with_reducible first | exact HB.out | apply below_alloc | apply pw_below_drewN | apply below_drew1) | exact HB.out)))); have n2_ := Aside0.mk (below_step (by repeat (first | (with_reducible first | exact HB.out | apply below_alloc | apply pw_below_drewN | apply below_drew1) | exact HB.out)) hb); clear HO104; clear HB; have HO104 := n0_; have HO107 := n1_; have HB := n2_; clear n0_ n1_ n2_; (try clear hb); (try clear hb2); (try clear hk); (try clear hi); (try clear ho0); obtain ⟨Ao14, co14, eo14⟩ := Kd.R_slice HO107.out; subst eo14) | ((with_reducible refine gate_callee (f := 87) rfl ?_); refine goesL_ (some 15) rfl rfl Try.func87 (by kernel_rfl) rfl #[.slice Ao14 t105.length co14, .slice Ao12 t102.length co12] rfl (by (try simp only [List.map_toArray, List.map_cons, List.map_nil]); first | done | rfl | (simp only [List.length_drop, List.length_take]; rfl)) ?_; (with_reducible refine (slices_Compare_int_int.calls k _ _ t105 _ _ t102 t108 _ ?side1 ?side2 ?side3 ?side4 A5.out).mono ?_); (case side1 => repeat (first | exact (Kd.R_reads' HO107.out).2.2 | (with_reducible refine Kd.C_alloc ?_ _) | (with_reducible refine Kd.C_drewN ?_ _) | (with_reducible refine Kd.C_drew ?_))); (case side2 => exact (Kd.R_reads' HO107.out).2.1); (case side3 => repeat (first | exact (Kd.R_reads' HO104.out).2.2 | (with_reducible refine Kd.C_alloc ?_ _) | (with_reducible refine Kd.C_drewN ?_ _) | (with_reducible refine Kd.C_drew ?_))); (case side4 => exact (Kd.R_reads' HO104.out).2.1); rintro e w' ⟨rfl, ⟨nd, rfl⟩⟩; refine ⟨_, rfl, ?_⟩))
      go_ret
      exact ⟨_, by first | rfl | (simp [errW_none, errW_some] <;> rfl) | (simp [*, errW_none, errW_some] <;> rfl), by (with_reducible repeat (first | apply Kd.R_alloc | apply Kd.R_drewN | apply Kd.R_drew)); exact Kd.R_mono HO104.out (fun _ hk => trivial), by repeat (first | (with_reducible first | exact HB.out | apply below_alloc | apply pw_below_drewN | apply below_drew1) | exact HB.out)⟩
  · rw [if_neg c2] at H
    exact absurd H (by simp)

end Go.Proofs.Ytlbhedhbakhhlaa.Q

/- The function that 'every' hands to search: it appends the normal form of what it is told to the rows that its variable holds. -/
namespace Go.Proofs.Ytlbhedhbakhhlaa.Q
open Go.RowKit Go.Proofs.YtlbhedhbakhhlaaW.PrintWords Go.Proofs.YtlbhedhbakhhlaaW.PrintLast Go.Proofs.YtlbhedhbakhhlaaW.PrintMore
set_option linter.unusedVariables false
set_option linter.unusedSimpArgs false

/-- What is told, and what the rows are then. -/
def tellRow (k : Nat) (l : List Int) (s : List (List Int)) : Option (List (List Int)) := (echo_normal.f k l).bind fun n => if s.length < 1000000 then some (s ++ [n]) else none

/-- The variable (block B) holds the rows. -/
def EveryInv (B : Nat) (s : List (List Int)) (w : World) : Prop :=
  ∃ v, w.heap[B]? = some (Obj.cells #[v] 34 (0, 0)) ∧ Kd.S (Kd.slice 3 (Kd.int .i64)) 22 w (B + 1) (fun _ => True) v s

theorem EveryInv.stay {B : Nat} {s : List (List Int)} {W W' : World} (h : EveryInv B s W) (hb : Below W.heap.size W W') : EveryInv B s W' := by
  obtain ⟨v, h1, h2⟩ := h
  exact ⟨v, (hb.block B (Array.getElem?_eq_some_iff.1 h1).1).trans h1, Kd.S_below h2 hb⟩

def every1.T0 : Bool × List (List Nat × List Nat) := (true, [([], []), ([], []), ([1], [1]), ([2], [2]), ([0, 3, 2], [0, 3]), ([4, 4, 0, 1, 2, 3, 4], [4])])
def every1.B0 : List Nat := [0, 0, 2, 6, 15, 31]
theorem every1.tab0 : rtab .any (opsOf Try.f89 0) = every1.T0 := by kernel_rfl
theorem every1.bits0 : waitsOk every1.T0.2 every1.B0 = true := by kernel_rfl

theorem box_cell {B : Nat} {w : World} {v : Value} (h : w.heap[B]? = some (Obj.cells #[v] 34 (0, 0))) : w.cell? ⟨B, 0, none⟩ = some v := by
  unfold World.cell?
  rw [h]
  rfl

set_option maxHeartbeats 8000000 in
set_option maxRecDepth 100000 in
theorem every1.calls (k : Nat) (B : Nat) (s s' : List (List Int)) (A : Option Addr) (c : Nat) (l : List Int) (w : World) (hI : EveryInv B s w) (hz : B ≤ w.heap.size) (hr : CT B w A l) (hc : l.length ≤ c) (h : tellRow k l s = some s') :
    Calls Try.prog 89 #[.slice A l.length c, .pointer (some ⟨B, 0, none⟩)] w fun e w' => e = .returned (.tuple #[]) ∧ EveryInv B s' w' ∧ TB B w w' := by
  obtain ⟨n, hn, h⟩ := Option.bind_eq_some_iff.mp h
  by_cases hlen : s.length < 1000000
  · rw [if_pos hlen] at h
    obtain rfl := Option.some.inj h
    obtain ⟨v, hbox, hS⟩ := hI
    have HN := Aside0.mk hn
    have HL := Aside0.mk hlen
    have HX := Aside0.mk hbox
    have HS := Aside0.mk hS
    have HR := Aside0.mk hr
    have HC := Aside0.mk hc
    have HB := Aside0.mk (Below.refl w.heap.size w)
    have HLT := Aside0.mk (Array.getElem?_eq_some_iff.1 hbox).1
    have HZ := Aside0.mk hz
    clear hn hlen hbox hS hr hc h hz
    go_enter Try.func89, Try.ntmps89
    have n0_ := Aside0.mk (below_drew1 HB.out)
    clear HB
    have HB := n0_
    clear n0_
    refine start_ (n := 6) (S := fun w' => w'.cell? ⟨B, 0, none⟩ = some v) (ds := [5]) #[false, false, false, false, false, false] (by kernel_rfl) rfl rfl (box_cell HX.out) (fun hHeld => ?_); refine with_tabW every1.tab0 every1.bits0 (fun HT_ HW_ => ?_)
    generalize w.drew = w1 at HB hHeld ⊢
    refine pure_ (i := 1) (N := some 4) (v := ?_) (a' := ?_) #[false, true, false, false, false, false] rfl rfl (any_of HT_.out (by kernel_rfl)) (fun _ _ _ h => h) (Or.inl ⟨by rfl, ?_⟩) ?_ ?_
    rotate_left
    · intro w'
      go_simp
      with_reducible rfl
    rotate_left
    · simp only [Act.put, List.setIfInBounds_toArray, List.set_cons_zero, List.set_cons_succ, i64_w, i32_w]
      rfl
    refine take_ (i := 0) (N := some 3) (v := ?_) (a' := ?_) #[true, true, false, false, false, false] rfl rfl (take_ofW HT_.out HW_.out (by kernel_rfl)) (fun _ _ _ h => h) (Or.inl ⟨by rfl, ?_⟩) hHeld ?_ ?_
    rotate_left
    · intro w' s0
      go_simp
      with_reducible rfl
    rotate_left
    · simp only [Act.put, List.setIfInBounds_toArray, List.set_cons_zero, List.set_cons_succ, i64_w, i32_w]
      rfl
    refine one_ (i := 2) (N := some 5) #[true, true, true, false, false, false] rfl rfl (one_of HT_.out (by kernel_rfl)) (by decide) (fun K hK => ?_)
    refine goes_ Try.func61 (by kernel_rfl) rfl #[.slice A l.length c] (by rfl) rfl rfl (by simp only [List.map_toArray, List.map_cons, List.map_nil]; rfl) ?_
    refine (echo_normal.calls k _ _ l n _ (Kd.C_below HR.out.c HB.out) HC.out HN.out).mono ?_
    rintro e w2 ⟨vn0, rfl, ho, hb⟩
    refine ⟨_, rfl, ?_⟩
    obtain ⟨An, cn, rfl⟩ := Kd.R_slice ho
    have HN2 := Aside0.mk ho
    have HB1 := HB
    have HB2 := Aside0.mk (below_step HB.out hb)
    clear HB
    have HB := HB2
    clear HB2 ho hb
    have hB1 : B + 1 ≤ w.heap.size := HLT.out
    have HB3 := Aside0.mk (HB.out.mono hB1)
    have HL1 := Aside0.mk hB1
    clear hB1
    have HV := Aside0.mk ((HB3.out.cell (p := ⟨B, 0, none⟩) (Nat.lt_succ_self B)).trans (box_cell HX.out))
    refine hK.out _ _ HV.out (fun hHeld => ?_)
    clear hK K
    refine norm_ (a' := ?_) ?_ ?_
    rotate_left
    · show Act.put _ (some 5) _ = _
      simp only [Act.put, List.setIfInBounds_toArray, List.set_cons_zero, List.set_cons_succ, i64_w, i32_w]
      rfl
    refine one_ (i := 3) (N := some 6) #[true, true, true, true, false, false] rfl rfl (one_of HT_.out (by kernel_rfl)) (by decide) (fun K hK => ?_)
    refine value_ (w1 := ?_) (v := ?_) (by rfl) rfl ?_ ?_
    rotate_left 2
    · go_simp
      constructor
      · rfl
      · rfl
    refine hK.out _ _ ((World.cell?_alloc_lt _ _ _ (World.block_lt_of_cell? _ _ HV.out)).trans HV.out) (fun hHeld => ?_)
    clear hK K
    refine norm_ (a' := ?_) ?_ ?_
    rotate_left
    · show Act.put _ (some 6) _ = _
      simp only [Act.put, List.setIfInBounds_toArray, List.set_cons_zero, List.set_cons_succ, i64_w, i32_w]
      rfl
    refine one_ (i := 4) (N := some 7) #[true, true, true, true, true, false] rfl rfl (one_of HT_.out (by kernel_rfl)) (by decide) (fun K hK => ?_)
    refine Kd.S_append_step (Kd.slice 3 (Kd.int .i64)) (w0 := w) (B + 1) (by rfl) (.tmp 3) (.tmp 6) 34 22 (.slice none 0 0) 24 rfl Try.underlying34 info22 rfl (by decide) (by omega) v s n [.slice An n.length cn] (fun _ => True) (fun k_ => some k_ = (Value.slice An n.length cn).ownBlock) rfl rfl ?hp ?hokp ?aF ?aO ?aB ?aS ?aL ?_
    (case hp => exact ⟨_, rfl, Kd.R_lower (Kd.R_tight rfl HN2.out) (Nat.le_trans HL1.out HB1.out.size)⟩)
    (case hokp => exact fun k_ hk_ => ⟨trivial, fun he_ => by have h1_ := Kd.R_base HN2.out k_ hk_.symm; have h2_ := Kd.S_lt HS.out k_ he_.symm; have h3_ := HB1.out.size; omega⟩)
    (case aF => exact fun _ _ => trivial)
    (case aO => exact Kd.S_mono (Kd.S_old HS.out HB.out) (fun k_ hk_ => ⟨trivial, fun he_ => by have h1_ := Kd.R_base HN2.out k_ he_.symm; have h2_ := hk_.2; have h3_ := HB1.out.size; omega⟩))
    (case aB => exact HB3.out)
    (case aS => exact Nat.le_trans HL1.out HB.out.size)
    (case aL => have := HL.out; omega)
    intro v1 w3 ho hb hg hat
    obtain ⟨A1, c1, e1⟩ := Kd.S_slice ho
    subst e1
    have HO := Aside0.mk ho
    have HB4 := Aside0.mk hb
    have HG := Aside0.mk hg
    clear ho hb hg hat
    have HF4 := Aside0.mk (show w3.frozen? ⟨B, 0, none⟩ = false from by unfold World.frozen?; rw [(HB4.out.block B (Nat.lt_succ_self B)).trans HX.out]; rfl)
    have HV4 := Aside0.mk ((HB4.out.cell (p := ⟨B, 0, none⟩) (Nat.lt_succ_self B)).trans (box_cell HX.out))
    have HX4 := Aside0.mk ((HB4.out.block B (Nat.lt_succ_self B)).trans HX.out)
    refine hK.out _ _ HV4.out (fun hHeld => ?_)
    clear hK K
    refine norm_ (a' := ?_) ?_ ?_
    rotate_left
    · show Act.put _ (some 7) _ = _
      simp only [Act.put, List.setIfInBounds_toArray, List.set_cons_zero, List.set_cons_succ, i64_w, i32_w]
      rfl
    refine last_ (i := 5) (N := none) #[true, true, true, true, true, true] rfl rfl (one_of HT_.out (by kernel_rfl)) (by decide) (fun K hK => ?_)
    refine skip_ (w1 := ?_) (by rfl) rfl ?_ ?_
    rotate_left
    · have hF_ := HF4.out
      go_simp
      rfl
    refine hK.out _ _ ?_
    clear hK K
    refine done_ (done_of HT_.out (by kernel_rfl)) ?_
    try go_wp2
    go_end0
    have hne : ∀ (i : Nat) (cells : Array Value), w.heap[i]? = some (Obj.cells cells 3 (0, 0)) → i ≠ B := fun i cells hi e_ => by
      subst e_
      rw [HX.out] at hi
      cases hi
    refine ⟨rfl, ⟨_, ?_, Kd.S_set HO.out HX4.out (by simp [Kd.slice, Kd.int, Kd.scalar]) 0 _⟩, ⟨HZ.out, ?_, ?_⟩⟩
    · simp only [World.setCell, Array.getElem?_modify, if_true, HX4.out, Option.map_some, List.length_append, List.length_singleton]
      rfl
    · exact (HB4.out.mono (Nat.le_succ B)).setCell (p := ⟨B, 0, none⟩) (Nat.le_refl B) _
    · intro i cells hi
      have hlt := (Array.getElem?_eq_some_iff.1 hi).1
      refine (Below.heap_setCell _ _ _ i (hne i cells hi)).trans ?_
      refine (HG.out.block i (Nat.lt_of_lt_of_le hlt HB.out.size) (fun e_ => ?_)).trans (HB.out.block i hlt)
      obtain ⟨cells', hc'⟩ := Kd.S_typed HS.out i e_.symm
      rw [hi] at hc'
      cases hc'
  · rw [if_neg hlen] at h
    cases h
end Go.Proofs.Ytlbhedhbakhhlaa.Q

namespace Go.Proofs.Ytlbhedhbakhhlaa.Q
open Go.RowKit Go.Proofs.YtlbhedhbakhhlaaW.PrintWords Go.Proofs.YtlbhedhbakhhlaaW.PrintLast Go.Proofs.YtlbhedhbakhhlaaW.PrintMore
attribute [local go_sem] max2_int min2_int max_two min_two max_three min_three max_four min_four   -- for this text's walks alone
set_option linter.unusedVariables false
set_option linter.unusedSimpArgs false

/-! ### slices_Equal_int_int: function 59 -/
def slices_Equal_int_int.l0 : Nat → List Int → List Int → Int → Int → Option (Bool)
  | 0, _, _, _, _ => none
  | k + 1, x0, x1, x12, x13 => if x13 < x12 then (if 0 ≤ x13 then (if x13 < (x0.length : Int) then (if x13 < (x1.length : Int) then (if (rd x0 x13) = (rd x1 x13) then (slices_Equal_int_int.l0 k x0 x1 x12 (wrap64 (x13 + 1))) else (some false)) else (none)) else (none)) else (none)) else (some true)
def slices_Equal_int_int.f (k : Nat) (l0 : List Int) (l1 : List Int) : Option (Bool) := if (l0.length : Int) = (l1.length : Int) then (slices_Equal_int_int.l0 k l0 l1 (l0.length : Int) 0) else (some false)
theorem slices_Equal_int_int.mono_l : ∀ k, (∀ y0 y1 y2 y3, LeO (slices_Equal_int_int.l0 k y0 y1 y2 y3) (slices_Equal_int_int.l0 (k + 1) y0 y1 y2 y3))
  | 0 => fun _ _ _ _ r h => by simp [slices_Equal_int_int.l0] at h
  | k + 1 => by
    have ih0 := slices_Equal_int_int.mono_l k
    · intro y0 y1 y2 y3
      unfold slices_Equal_int_int.l0
      repeat' first
      | (with_reducible exact ih0 _ _ _ _)
      | (with_reducible exact LeO.refl _)
      | (with_reducible exact LeO.none _)
      | (with_reducible refine LeO.ite ?_ ?_)
      | (with_reducible refine LeO.bind ?_ (fun _ => ?_))
      | exact ih0 _ _ _ _
      | exact LeO.none _
      | refine LeO.ite ?_ ?_
      | refine LeO.bind ?_ (fun _ => ?_)
theorem slices_Equal_int_int.mono : ∀ a0 a1 k, LeO (slices_Equal_int_int.f k a0 a1) (slices_Equal_int_int.f (k + 1) a0 a1) := by
  intro a0 a1 k
  have ih0 := slices_Equal_int_int.mono_l k
  unfold slices_Equal_int_int.f
  repeat' first
      | (with_reducible exact ih0 _ _ _ _)
      | (with_reducible exact LeO.refl _)
      | (with_reducible exact LeO.none _)
      | (with_reducible refine LeO.ite ?_ ?_)
      | (with_reducible refine LeO.bind ?_ (fun _ => ?_))
      | exact ih0 _ _ _ _
      | exact LeO.none _
      | refine LeO.ite ?_ ?_
      | refine LeO.bind ?_ (fun _ => ?_)
set_option maxHeartbeats 8000000 in
set_option maxRecDepth 100000 in
theorem slices_Equal_int_int.calls (k : Nat) (A0 : Option Addr) (c0 : Nat) (l0 : List Int) (A1 : Option Addr) (c1 : Nat) (l1 : List Int) (r : Bool) (w : World) (hr0 : Kd.C (Kd.int .i64) w A0 l0.length l0) (hc0 : l0.length ≤ c0) (hr1 : Kd.C (Kd.int .i64) w A1 l1.length l1) (hc1 : l1.length ≤ c1) (h : slices_Equal_int_int.f k l0 l1 = some r) :
    Calls Try.prog 59 #[.slice A0 l0.length c0, .slice A1 l1.length c1] w fun e w' => e = .returned (.bool r) ∧ Drawn0 w w' := by
  have HR0 := Aside0.mk hr0
  have HC0 := Aside0.mk hc0
  clear hr0 hc0
  have HR1 := Aside0.mk hr1
  have HC1 := Aside0.mk hc1
  clear hr1 hc1
  have H : (if (l0.length : Int) = (l1.length : Int) then (slices_Equal_int_int.l0 k l0 l1 (l0.length : Int) 0) else (some false)) = some r := h
  clear h
  by_cases c3 : (l0.length : Int) = (l1.length : Int)
  · rw [if_pos c3] at H
    have c3b0 : ((l0.length : Int) == (l1.length : Int)) = true := beq_iff_eq.mpr c3
    have c3b1 : ((l0.length : Int) != (l1.length : Int)) = false := bne_eq_false_iff_eq.mpr c3
    have c3b2 : (l0.length == l1.length) = true := by first | simpa using c3 | (simp at c3 ⊢; omega)
    clear c3
    have H' := Aside0.mk H
    clear H
    go_enter Try.func59, Try.ntmps59
    go_wp2
    repeat (go_quiet (fail); try go_wp2)
    go_loopg [13] k (fun kq v13 w' => ∃ (x13_1 : Int), v13 = .int .i64 x13_1 ∧ Aside0 (slices_Equal_int_int.l0 kq l0 l1 (l0.length : Int) x13_1 = some r) ∧ Aside0 (kq ≤ k) ∧ Drawn0 w w')
    case atStart => exact ⟨(0), (by first | rfl | (simp; done) | (simp [*]; done)), H', ⟨Nat.le_refl _⟩, by repeat (first | exact Drawn0.refl _ | apply Drawn0.step)⟩
    case round =>
      clear H'
      try clear c1
      try clear p2
      try clear c3
      try clear c3b0
      try clear c3b1
      try clear c3b2
      obtain ⟨x13_1, rfl, HA, HK1, ⟨m1, rfl⟩⟩ := hrel
      cases gk with
      | zero => exact absurd HA.out (by simp [slices_Equal_int_int.l0])
      | succ k1 =>
        have H := HA.out
        clear HA
        simp only [slices_Equal_int_int.l0] at H
        by_cases c4 : x13_1 < (l0.length : Int)
        · rw [if_pos c4] at H
          have c4b0 : decide (x13_1 < (l0.length : Int)) = true := decide_eq_true c4
          clear c4
          by_cases c5 : 0 ≤ x13_1
          · rw [if_pos c5] at H
            have c5b0 : decide (0 ≤ x13_1) = true := decide_eq_true c5
            clear c5
            by_cases c6 : x13_1 < (l0.length : Int)
            · rw [if_pos c6] at H
              have c6b0 : decide (x13_1 < (l0.length : Int)) = true := decide_eq_true c6
              clear c6
              by_cases c7 : x13_1 < (l1.length : Int)
              · rw [if_pos c7] at H
                have c7b0 : decide (x13_1 < (l1.length : Int)) = true := decide_eq_true c7
                clear c7
                by_cases c8 : (rd l0 x13_1) = (rd l1 x13_1)
                · rw [if_pos c8] at H
                  have c8b0 : ((rd l0 x13_1) == (rd l1 x13_1)) = true := beq_iff_eq.mpr c8
                  have c8b1 : ((rd l0 x13_1) != (rd l1 x13_1)) = false := bne_eq_false_iff_eq.mpr c8
                  clear c8
                  have H' := Aside0.mk H
                  clear H
                  have p101 : 0 ≤ (x13_1 : Int) := of_decide_eq_true (by first | (with_reducible assumption) | assumption)
                  have q101 : x13_1 < (l0.length : Int) := of_decide_eq_true (by first | (with_reducible assumption) | assumption)
                  obtain ⟨ad101, e101, hx101_0⟩ := Kd.at_int HR0.out x13_1 p101 q101
                  cases e101
                  replace p101 := eq_true p101
                  replace q101 := eq_true q101
                  have p102 : 0 ≤ (x13_1 : Int) := of_decide_eq_true (by first | (with_reducible assumption) | assumption)
                  have q102 : x13_1 < (l1.length : Int) := of_decide_eq_true (by first | (with_reducible assumption) | assumption)
                  obtain ⟨ad102, e102, hx102_0⟩ := Kd.at_int HR1.out x13_1 p102 q102
                  cases e102
                  replace p102 := eq_true p102
                  replace q102 := eq_true q102
                  go_wp2
                  repeat (go_quiet (fail); try go_wp2)
                  go_roundg k1
                  case measure => have := HK1.out; omega
                  case rel => exact ⟨(wrap64 (x13_1 + 1)), (by first | rfl | (simp; done) | (simp [*]; done)), H', ⟨by have := HK1.out; omega⟩, by repeat (first | exact Drawn0.refl _ | apply Drawn0.step)⟩
                · rw [if_neg c8] at H
                  have c8b0 : ((rd l0 x13_1) == (rd l1 x13_1)) = false := beq_eq_false_iff_ne.mpr c8
                  have c8b1 : ((rd l0 x13_1) != (rd l1 x13_1)) = true := bne_iff_ne.mpr c8
                  obtain rfl := Option.some.inj H
                  have p101 : 0 ≤ (x13_1 : Int) := of_decide_eq_true (by first | (with_reducible assumption) | assumption)
                  have q101 : x13_1 < (l0.length : Int) := of_decide_eq_true (by first | (with_reducible assumption) | assumption)
                  obtain ⟨ad101, e101, hx101_0⟩ := Kd.at_int HR0.out x13_1 p101 q101
                  cases e101
                  replace p101 := eq_true p101
                  replace q101 := eq_true q101
                  have p102 : 0 ≤ (x13_1 : Int) := of_decide_eq_true (by first | (with_reducible assumption) | assumption)
                  have q102 : x13_1 < (l1.length : Int) := of_decide_eq_true (by first | (with_reducible assumption) | assumption)
                  obtain ⟨ad102, e102, hx102_0⟩ := Kd.at_int HR1.out x13_1 p102 q102
                  cases e102
                  replace p102 := eq_true p102
                  replace q102 := eq_true q102
                  go_wp2
                  repeat (go_quiet (fail); try go_wp2)
                  go_ret
                  exact ⟨by first | rfl | (simp; done) | (simp [*]; done), by repeat (first | exact Drawn0.refl _ | apply Drawn0.step)⟩
              · rw [if_neg c7] at H
                exact absurd H (by simp)
            · rw [if_neg c6] at H
              exact absurd H (by simp)
          · rw [if_neg c5] at H
            exact absurd H (by simp)
        · rw [if_neg c4] at H
          have c4b0 : decide (x13_1 < (l0.length : Int)) = false := decide_eq_false c4
          clear c4
          obtain rfl := Option.some.inj H
          go_wp2
          repeat (go_quiet (fail); try go_wp2)
          go_ret
          exact ⟨by first | rfl | (simp; done) | (simp [*]; done), by repeat (first | exact Drawn0.refl _ | apply Drawn0.step)⟩
  · rw [if_neg c3] at H
    have c3b0 : ((l0.length : Int) == (l1.length : Int)) = false := beq_eq_false_iff_ne.mpr c3
    have c3b1 : ((l0.length : Int) != (l1.length : Int)) = true := bne_iff_ne.mpr c3
    have c3b2 : (l0.length == l1.length) = false := by first | simpa using c3 | (simp at c3 ⊢; omega)
    obtain rfl := Option.some.inj H
    go_enter Try.func59, Try.ntmps59
    go_wp2
    repeat (go_quiet (fail); try go_wp2)
    go_ret
    exact ⟨by first | rfl | (simp; done) | (simp [*]; done), by repeat (first | exact Drawn0.refl _ | apply Drawn0.step)⟩

end Go.Proofs.Ytlbhedhbakhhlaa.Q

/- The comparison of rows of whole numbers, told plainly. -/
namespace Go.Proofs.Ytlbhedhbakhhlaa.Q
open Go.RowKit Go.Proofs.YtlbhedhbakhhlaaW.PrintWords Go.Proofs.YtlbhedhbakhhlaaW.PrintLast Go.Proofs.YtlbhedhbakhhlaaW.PrintMore

/-- From some number of rounds on the function has this result. -/
def Ev {α : Type} (f : Nat → Option α) (r : α) : Prop := ∃ K, ∀ k, K ≤ k → f k = some r
theorem Ev.uniq {α : Type} {f : Nat → Option α} {r s : α} (h : Ev f r) (g : Ev f s) : r = s := by
  obtain ⟨K, h⟩ := h
  obtain ⟨L, g⟩ := g
  have a := h (K + L) (by omega)
  rw [g (K + L) (by omega)] at a
  exact (Option.some.inj a).symm

theorem wrap_of {x : Int} (h1 : -9223372036854775808 ≤ x) (h2 : x ≤ 9223372036854775807) : wrap64 x = x := by
  unfold wrap64
  omega
theorem rd_nat (l : List Int) (i : Nat) : rd l (i : Int) = l.getD i 0 := rfl
theorem rd_lt (l : List Int) (i : Nat) (h : i < l.length) : rd l (i : Int) = l[i] := by
  rw [rd_nat, List.getD_eq_getElem?_getD, List.getElem?_eq_getElem h]
  rfl

/-- The order of words: -1, 0 or 1. -/
def lexI : List Int → List Int → Int
  | [], [] => 0
  | [], _ :: _ => -1
  | _ :: _, [] => 1
  | a :: x, b :: y => if a < b then -1 else if b < a then 1 else lexI x y

theorem compare_int (a b : Int) : cmp_Compare_int.f a b = some (if a < b then -1 else if a > b then 1 else 0) := by
  simp only [cmp_Compare_int.f, cmp_isNaN_int.f, Option.bind_some, bne_self_eq_false, Bool.false_eq_true, if_false]
  split <;> (try split) <;> rfl

theorem compare_l0 (x y : List Int) (hx : x.length ≤ 9223372036854775807) :
    ∀ (m i k : Nat), x.length - i = m → i ≤ x.length → i ≤ y.length → m < k →
      slices_Compare_int_int.l0 k x y x (x.length : Int) (i : Int) = some (lexI (x.drop i) (y.drop i)) := by
  intro m
  induction m with
  | zero =>
    intro i k hm hi hy hk
    obtain ⟨k, rfl⟩ : ∃ j, k = j + 1 := ⟨k - 1, by omega⟩
    have hix : i = x.length := by omega
    subst hix
    rw [slices_Compare_int_int.l0, if_neg (by omega), List.drop_length]
    by_cases hl : x.length < y.length
    · rw [if_pos (by omega)]
      obtain ⟨b, t, ht⟩ : ∃ b t, y.drop x.length = b :: t := by
        cases hd : y.drop x.length with
        | nil => have := congrArg List.length hd; simp at this; omega
        | cons b t => exact ⟨b, t, rfl⟩
      rw [ht]
      rfl
    · rw [if_neg (by omega), List.drop_of_length_le (by omega)]
      rfl
  | succ m ih =>
    intro i k hm hi hy hk
    obtain ⟨k, rfl⟩ : ∃ j, k = j + 1 := ⟨k - 1, by omega⟩
    have hix : i < x.length := by omega
    rw [slices_Compare_int_int.l0, if_pos (by omega), if_pos (by omega), if_pos (by omega), List.drop_eq_getElem_cons hix]
    by_cases hl : i < y.length
    · rw [if_neg (by omega), if_pos (by omega), List.drop_eq_getElem_cons hl, rd_lt x i hix, rd_lt y i hl, compare_int, Option.bind_some]
      simp only [lexI]
      by_cases h1 : x[i] < y[i]
      · rw [if_pos h1, if_neg (by omega), if_pos h1]
      · by_cases h2 : x[i] > y[i]
        · rw [if_neg h1, if_pos h2, if_neg (by omega), if_neg h1, if_pos h2]
        · rw [if_neg h1, if_neg h2, if_pos rfl, if_neg h1, if_neg h2, wrap_of (by omega) (by omega)]
          exact ih (i + 1) k (by omega) (by omega) (by omega) (by omega)
    · rw [if_pos (by omega), List.drop_of_length_le (by omega : y.length ≤ i)]
      rfl
theorem compare_ev (x y : List Int) (hx : x.length ≤ 9223372036854775807) : ∀ k, x.length < k → slices_Compare_int_int.f k x y = some (lexI x y) := by
  intro k hk
  have := compare_l0 x y hx x.length 0 k (by omega) (by omega) (by omega) hk
  simpa [slices_Compare_int_int.f] using this

theorem equal_l0 (x y : List Int) (hx : x.length ≤ 9223372036854775807) (hl : x.length = y.length) :
    ∀ (m i k : Nat), x.length - i = m → i ≤ x.length → m < k →
      slices_Equal_int_int.l0 k x y (x.length : Int) (i : Int) = some (decide (x.drop i = y.drop i)) := by
  intro m
  induction m with
  | zero =>
    intro i k hm hi hk
    obtain ⟨k, rfl⟩ : ∃ j, k = j + 1 := ⟨k - 1, by omega⟩
    rw [slices_Equal_int_int.l0, if_neg (by omega), List.drop_of_length_le (by omega), List.drop_of_length_le (by omega)]
    rfl
  | succ m ih =>
    intro i k hm hi hk
    obtain ⟨k, rfl⟩ : ∃ j, k = j + 1 := ⟨k - 1, by omega⟩
    have hix : i < x.length := by omega
    have hiy : i < y.length := by omega
    rw [slices_Equal_int_int.l0]
    rw [List.drop_eq_getElem_cons hix, List.drop_eq_getElem_cons hiy, rd_lt x i hix, rd_lt y i hiy, wrap_of (by omega) (by omega)]
    have ih' := ih (i + 1) k (by omega) (by omega) (by omega)
    generalize x.drop (i + 1) = X at ih' ⊢
    generalize y.drop (i + 1) = Y at ih' ⊢
    by_cases he : x[i] = y[i]
    · simp [he, hix, hiy] at ih' ⊢
      exact ih'
    · simp [he, hix, hiy]
theorem equal_ev (x y : List Int) (hx : x.length ≤ 9223372036854775807) : ∀ k, x.length < k → slices_Equal_int_int.f k x y = some (decide (x = y)) := by
  intro k hk
  unfold slices_Equal_int_int.f
  by_cases hl : x.length = y.length
  · rw [if_pos (by omega)]
    have := equal_l0 x y hx hl x.length 0 k (by omega) (by omega) hk
    simpa using this
  · rw [if_neg (by omega)]
    have : x ≠ y := fun h => hl (by rw [h])
    simp [this]

theorem lexI_zero : ∀ x y, lexI x y = 0 → x = y
  | [], [], _ => rfl
  | [], _ :: _, h => by simp [lexI] at h
  | _ :: _, [], h => by simp [lexI] at h
  | a :: x, b :: y, h => by
    simp only [lexI] at h
    split at h
    · cases h
    · split at h
      · cases h
      · rw [lexI_zero x y h, show a = b by omega]
theorem lexI_self : ∀ x, lexI x x = 0
  | [] => rfl
  | a :: x => by simp [lexI, lexI_self x]
theorem lexI_anti : ∀ x y, lexI y x = - lexI x y
  | [], [] => rfl
  | [], _ :: _ => rfl
  | _ :: _, [] => rfl
  | a :: x, b :: y => by
    simp only [lexI]
    by_cases h1 : a < b
    · rw [if_neg (by omega), if_pos h1, if_pos h1]; rfl
    · by_cases h2 : b < a
      · rw [if_pos h2, if_neg h1, if_pos h2]
      · rw [if_neg h2, if_neg h1, if_neg h1, if_neg h2]
        exact lexI_anti x y
theorem lexI_trans : ∀ x y z, lexI x y < 0 → lexI y z < 0 → lexI x z < 0
  | [], y, [], h1, h2 => by cases y <;> simp [lexI] at h1 h2
  | [], y, _ :: _, h1, h2 => by simp [lexI]
  | _ :: _, [], _, h1, h2 => by simp [lexI] at h1
  | _ :: _, _ :: _, [], h1, h2 => by simp [lexI] at h2
  | a :: x, b :: y, c :: z, h1, h2 => by
    simp only [lexI] at h1 h2 ⊢
    by_cases hab : a < b
    · by_cases hbc : b < c
      · rw [if_pos (by omega)]; omega
      · rw [if_neg hbc] at h2
        by_cases hcb : c < b
        · rw [if_pos hcb] at h2; omega
        · rw [if_pos (by omega)]; omega
    · rw [if_neg hab] at h1
      by_cases hba : b < a
      · rw [if_pos hba] at h1; omega
      · rw [if_neg hba] at h1
        have : a = b := by omega
        subst this
        by_cases hbc : a < c
        · rw [if_pos hbc]; omega
        · rw [if_neg hbc] at h2 ⊢
          by_cases hcb : c < a
          · rw [if_pos hcb] at h2; omega
          · rw [if_neg hcb] at h2 ⊢
            exact lexI_trans x y z h1 h2
/-- x is not behind y. -/
def leL (x y : List Int) : Bool := decide (lexI x y ≤ 0)
theorem leL_total (x y : List Int) : (leL x y || leL y x) = true := by
  unfold leL
  rw [lexI_anti x y]
  simp
  omega
theorem leL_antisymm (x y : List Int) (h1 : leL x y = true) (h2 : leL y x = true) : x = y := by
  unfold leL at h1 h2
  rw [lexI_anti x y] at h2
  simp at h1 h2
  exact lexI_zero x y (by omega)
theorem leL_trans (x y z : List Int) (h1 : leL x y = true) (h2 : leL y z = true) : leL x z = true := by
  unfold leL at *
  simp at *
  by_cases a : lexI x y = 0
  · rw [lexI_zero x y a]; exact h2
  · by_cases b : lexI y z = 0
    · rw [← lexI_zero y z b]; exact h1
    · have := lexI_trans x y z (by omega) (by omega); omega
end Go.Proofs.Ytlbhedhbakhhlaa.Q

/- A row of rows of numbers, laid open: its cells, the rows to which they lead, and that no two of these are one. -/
namespace Go.Proofs.Ytlbhedhbakhhlaa.Q
open Go.RowKit Go.Sort Go.Proofs.YtlbhedhbakhhlaaW.PrintWords Go.Proofs.YtlbhedhbakhhlaaW.PrintLast Go.Proofs.YtlbhedhbakhhlaaW.PrintMore

/-- A row of numbers of the call's own (from block base on). -/
structure RowAt (w : World) (base : Nat) where
  v : Value
  l : List Int
  ho : Kd.R (Kd.int .i64) 3 w base (fun _ => True) v l
instance (w : World) (base : Nat) : Inhabited (RowAt w base) := ⟨⟨.slice none 0 0, [], Kd.R_nil _ _ _ _ _⟩⟩
def Apart {w : World} {base : Nat} (a b : RowAt w base) : Prop := ∀ k, a.v.ownBlock = some k → b.v.ownBlock = some k → False
theorem Apart.symm {w : World} {base : Nat} {a b : RowAt w base} (h : Apart a b) : Apart b a := fun k h1 h2 => h k h2 h1

theorem rows_open {w : World} {base : Nat} {v : Value} {s : List (List Int)} (h : Kd.S (Kd.slice 3 (Kd.int .i64)) 22 w base (fun _ => True) v s) :
    (v = .slice none 0 0 ∧ s = []) ∨ ∃ g cap cur, ∃ es : List (RowAt w base), v = .slice (some ⟨g, 0, none⟩) s.length cap ∧ base ≤ g ∧ w.heap[g]? = some (Obj.cells cur 22 (0, 0)) ∧ s.length ≤ cap ∧ cap ≤ maxLen ∧ cur.size = cap ∧
      cur.toList.take s.length = es.map RowAt.v ∧ es.map RowAt.l = s ∧ es.Pairwise Apart := by
  obtain ⟨f, h0, inner, ho, hr⟩ := h
  rw [List.length_zipIdx] at ho
  have hz1 : (Kd.tag f (Kd.slice 3 (Kd.int .i64))).sz = 1 := rfl
  rw [hz1] at ho hr
  rcases ho.2 with ⟨hv, hn⟩ | ⟨g, cap, cur, hv, hb, hh, h1, h2, h3, h4⟩
  · exact .inl ⟨hv, List.length_eq_zero_iff.1 hn⟩
  · right
    have hl : inner.length = s.length := by have := hr.1; rw [List.length_zipIdx] at this; omega
    have key : ∀ j, j < s.length → ∃ e : RowAt w base, inner[j]? = some e.v ∧ s[j]? = some e.l ∧ ∀ k, e.v.ownBlock = some k → f k = j := by
      intro j hj
      have hx : s[j]? = some s[j] := List.getElem?_eq_getElem hj
      obtain ⟨u, hu, hR⟩ := hr.2 j (s[j], j) (Kd.zip_at hx)
      refine ⟨⟨u, s[j], Kd.R_mono hR (fun _ _ => trivial)⟩, ?_, hx, fun k hk => (hR.1 k hk).2⟩
      have h5 : (inner.drop (j * 1)).take 1 = [inner[j]] := by
        rw [Nat.mul_one, List.drop_eq_getElem_cons (by omega)]
        rfl
      rw [h5] at hu
      rw [List.getElem?_eq_getElem (by omega)]
      exact congrArg some (List.cons.inj hu).1
    let E : Nat → RowAt w base := fun j => if hj : j < s.length then (key j hj).choose else default
    have hE : ∀ j, j < s.length → inner[j]? = some (E j).v ∧ s[j]? = some (E j).l ∧ ∀ k, (E j).v.ownBlock = some k → f k = j := by
      intro j hj
      show inner[j]? = some (if hj : j < s.length then (key j hj).choose else default).v ∧ s[j]? = some (if hj : j < s.length then (key j hj).choose else default).l ∧ ∀ k, (if hj : j < s.length then (key j hj).choose else default).v.ownBlock = some k → f k = j
      rw [dif_pos hj]
      exact (key j hj).choose_spec
    refine ⟨g, cap, cur, (List.range s.length).map E, hv, hb, hh, h1, h2, by omega, ?_, ?_, ?_⟩
    · rw [Nat.mul_one] at h4
      rw [h4]
      apply List.ext_getElem?
      intro j
      by_cases hj : j < s.length
      · rw [(hE j hj).1]
        simp [hj]
      · rw [List.getElem?_eq_none (by omega), List.getElem?_eq_none (by simp; omega)]
    · apply List.ext_getElem?
      intro j
      by_cases hj : j < s.length
      · rw [(hE j hj).2.1]
        simp [hj]
      · rw [List.getElem?_eq_none (by simp; omega), List.getElem?_eq_none (by omega)]
    · rw [List.pairwise_map]
      refine (List.pairwise_lt_range).imp_of_mem fun {a b} ha hb hab => ?_
      intro k h1 h2
      have := (hE a (List.mem_range.1 ha)).2.2 k h1
      have := (hE b (List.mem_range.1 hb)).2.2 k h2
      omega

theorem rows_shut {w W : World} {base g cap : Nat} {cur : Array Value} {es : List (RowAt w base)} (hb : base ≤ g) (hh : W.heap[g]? = some (Obj.cells cur 22 (0, 0))) (h1 : es.length ≤ cap) (h2 : cap ≤ maxLen) (h3 : cur.size = cap)
    (h4 : cur.toList.take es.length = es.map RowAt.v) (hap : es.Pairwise Apart) (htb : ∀ (k : Nat) (cells : Array Value), w.heap[k]? = some (Obj.cells cells 3 (0, 0)) → W.heap[k]? = w.heap[k]?) :
    Kd.S (Kd.slice 3 (Kd.int .i64)) 22 W base (fun _ => True) (.slice (some ⟨g, 0, none⟩) es.length cap) (es.map RowAt.l) := by
  let f : Nat → Nat := fun k => es.findIdx fun e => decide (e.v.ownBlock = some k)
  have hf : ∀ (j : Nat) (hj : j < es.length) (k : Nat), es[j].v.ownBlock = some k → f k = j := by
    intro j hj k hk
    show es.findIdx _ = j
    rw [List.findIdx_eq hj]
    refine ⟨by simpa using hk, fun i hi => ?_⟩
    have := List.pairwise_iff_getElem.1 hap i j (by omega) hj hi
    simp only [decide_eq_false_iff_not]
    exact fun h => this k h hk
  refine ⟨f, fun _ _ => trivial, es.map RowAt.v, ⟨by simp [Kd.tag, Kd.slice], .inr ⟨g, cap, cur, by simp, hb, hh, by simp; omega, h2, by rw [h3]; simp [Kd.tag, Kd.slice], ?_⟩⟩, by simp [Kd.tag, Kd.slice], ?_⟩
  · rw [show (Kd.tag f (Kd.slice 3 (Kd.int .i64))).sz = 1 from rfl, List.length_zipIdx, List.length_map, Nat.mul_one]
    exact h4
  · intro j p hj
    rw [List.getElem?_zipIdx, Nat.zero_add] at hj
    obtain ⟨x, hx, rfl⟩ := Option.map_eq_some_iff.1 hj
    rw [List.getElem?_map] at hx
    obtain ⟨e, he, rfl⟩ := Option.map_eq_some_iff.1 hx
    obtain ⟨hlt, rfl⟩ := List.getElem?_eq_some_iff.1 he
    have h5 : ((es.map RowAt.v).drop (j * 1)).take 1 = [es[j].v] := by
      rw [Nat.mul_one, List.drop_eq_getElem_cons (by simpa using hlt)]
      simp
    refine ⟨es[j].v, h5, ?_⟩
    have hR := Kd.R_bound es[j].ho
    have hR2 : Kd.R (Kd.int .i64) 3 W base _ es[j].v es[j].l := Kd.R_move hR fun i hi => by
      obtain ⟨_, _, _, q, hq, cells, hc⟩ := hi
      have : q = 3 := by simpa [Kd.int, Kd.scalar] using hq
      subst this
      exact htb i cells hc
    refine Kd.R_mono (Kd.R_tight rfl hR2) fun k hk => ⟨⟨trivial, fun he => ?_⟩, hf j hlt k hk.symm⟩
    -- the row's own block is none of type 22
    have hg : g = k := by
      have : (Value.slice (some ⟨g, 0, none⟩) es.length cap).ownBlock = some g := rfl
      rw [this] at he
      exact (Option.some.inj he).symm
    obtain ⟨cells, hc⟩ := Kd.R_typed hR2 k hk.symm
    rw [← hg, hh] at hc
    cases hc

variable {α : Type} [Inhabited α] {enc : α → Value}
theorem holds_rows {w : World} {g : Nat} {cur : Array Value} {e : TypeId} {es : List α} (hb : w.heap[g]? = some (Obj.cells cur e (0, 0))) (ht : cur.toList.take es.length = es.map enc) : Holds enc w g 0 es.toArray := by
  intro j hj
  have hj' : j < es.length := by simpa using hj
  refine ⟨?_, by simp [World.frozen?, hb]⟩
  have h1 : (cur.toList.take es.length)[j]? = (es.map enc)[j]? := by rw [ht]
  rw [List.getElem?_take_of_lt hj'] at h1
  simp only [World.cell?, hb, Nat.zero_add]
  rw [if_neg (by simp), ← Array.getElem?_toList, h1]
  simp [hj']
theorem heap_put {w : World} {g n : Nat} {os : Array Obj} {cur : Array Value} {e : TypeId} {fr : Nat × Nat} (d : Array α) (hb : w.heap[g]? = some (Obj.cells cur e fr)) :
    (grow (putRow enc (Sort.ahead w n) g 0 d) os).heap[g]? = some (Obj.cells (putCells enc 0 d cur) e fr) := by
  have hg : g < w.heap.size := (Array.getElem?_eq_some_iff.1 hb).1
  rw [heap_grow_old _ _ (by simpa using hg)]
  simp [putRow, mapBlock, Sort.ahead, Array.getElem?_modify, hb, onCells]
theorem grown_put {w : World} {g n : Nat} {os : Array Obj} (d : Array α) : w.grownBy (grow (putRow enc (Sort.ahead w n) g 0 d) os) (some g) := by
  refine ⟨rfl, rfl, rfl, by simp, fun k hk hne => ?_⟩
  rw [heap_grow_old _ _ (by simpa using hk)]
  have : g ≠ k := fun e => hne (by rw [e])
  simp [putRow, mapBlock, Sort.ahead, Array.getElem?_modify, this]
theorem take_put (cur : Array Value) (ts : List α) (m : Nat) (hm : m ≤ ts.length) (h : ts.length ≤ cur.size) : (putCells enc 0 ts.toArray cur).toList.take m = (ts.take m).map enc := by
  apply List.ext_getElem?
  intro j
  by_cases hj : j < m
  · rw [List.getElem?_take_of_lt hj, Array.getElem?_toList]
    simp [putCells, hj, show j < cur.size by omega, show j < ts.length by omega]
  · rw [List.getElem?_take_eq_none (by omega), List.getElem?_eq_none (by simp; omega)]
end Go.Proofs.Ytlbhedhbakhhlaa.Q

/-
  DERIVED: THE SHELF's CONTRACTS AT THIS DUMP, IN PLAIN WORDS (tools/lay-plain.mjs out of 'EchoShelf2T.lean', which tools/lay-shelf.mjs wrote): THE SAME DECLARATIONS UNDER THE SAME NAMES: 'import', 'namespace', 'open', 'def', 'theorem' AND NOTHING ELSE: no command of the shelf's: FOR A HAND-IN. Each laying: the table of numbers ('.._ren') and one theorem, a field a fact of the dump's own or the kernel's comparison; each contract: ONE APPLICATION.
-/
namespace Go.Proofs
open Go.Shelf
def Try.sortL_ren : Go.Shelf.Ren := ⟨fun | 6 => 90 | 15 => 96 | 14 => 106 | 28 => 116 | 29 => 117 | 20 => 121 | 21 => 122 | 22 => 123 | 23 => 124 | 24 => 125 | 25 => 126 | 26 => 127 | 27 => 128 | 46 => 136 | 47 => 130 | 48 => 131 | 49 => 137 | 50 => 138 | 57 => 140 | n => n, fun | 22 => 34 | 24 => 22 | 25 => 60 | 3 => 3 | 39 => 70 | 0 => 0 | 53 => 88 | 55 => 90 | 4 => 4 | 46 => 82 | 45 => 81 | 50 => 51 | 5 => 5 | 9 => 9 | 66 => 98 | 70 => 102 | 76 => 106 | 77 => 107 | n => n, fun | n => n⟩
theorem Try.sortL : Go.Proofs.SlLaysF.n6 Try.prog Try.sortL_ren := {
  mixed := by kernel_rfl
  f6 := ⟨Try.f90.name, by decide, Try.func90.trans (congrArg some (by kernel_rfl))⟩
  f14 := ⟨Try.f106.name, by decide, Try.func106.trans (congrArg some (by kernel_rfl))⟩
  f15 := Try.func96.trans (congrArg some (by kernel_rfl))
  f20 := ⟨Try.f121.name, by decide, Try.func121.trans (congrArg some (by kernel_rfl))⟩
  f21 := ⟨Try.f122.name, by decide, Try.func122.trans (congrArg some (by kernel_rfl))⟩
  f22 := ⟨Try.f123.name, by decide, Try.func123.trans (congrArg some (by kernel_rfl))⟩
  f23 := ⟨Try.f124.name, by decide, Try.func124.trans (congrArg some (by kernel_rfl))⟩
  f24 := ⟨Try.f125.name, by decide, Try.func125.trans (congrArg some (by kernel_rfl))⟩
  f25 := ⟨Try.f126.name, by decide, Try.func126.trans (congrArg some (by kernel_rfl))⟩
  f26 := ⟨Try.f127.name, by decide, Try.func127.trans (congrArg some (by kernel_rfl))⟩
  f27 := ⟨Try.f128.name, by decide, Try.func128.trans (congrArg some (by kernel_rfl))⟩
  f28 := Try.func116.trans (congrArg some (by kernel_rfl))
  f29 := Try.func117.trans (congrArg some (by kernel_rfl))
  f46 := ⟨Try.f136.name, by decide, Try.func136.trans (congrArg some (by kernel_rfl))⟩
  f47 := Try.func130.trans (congrArg some (by kernel_rfl))
  f48 := Try.func131.trans (congrArg some (by kernel_rfl))
  f49 := ⟨Try.f137.name, by decide, Try.func137.trans (congrArg some (by kernel_rfl))⟩
  f50 := ⟨Try.f138.name, by decide, Try.func138.trans (congrArg some (by kernel_rfl))⟩
  f57 := ⟨Try.f140.name, by decide, Try.func140.trans (congrArg some (by kernel_rfl))⟩
  t0 := Try.underlying0
  a0 := Try.isAgg0
  z0 := Try.sizeOf0
  v0 := Try.zeroValue0
  t3 := Try.underlying3
  a3 := Try.isAgg3
  z3 := Try.sizeOf3
  v3 := Try.zeroValue3
  t4 := Try.underlying4
  a4 := Try.isAgg4
  z4 := Try.sizeOf4
  v4 := Try.zeroValue4
  t5 := Try.underlying5
  a5 := Try.isAgg5
  z5 := Try.sizeOf5
  v5 := Try.zeroValue5
  t9 := Try.underlying9
  a9 := Try.isAgg9
  z9 := Try.sizeOf9
  v9 := Try.zeroValue9
  t22 := Try.underlying34
  a22 := Try.isAgg34
  z22 := Try.sizeOf34
  v22 := Try.zeroValue34
  a24 := Try.isAgg22
  z24 := Try.sizeOf22
  t25 := Try.underlying60
  a25 := Try.isAgg60
  z25 := Try.sizeOf60
  v25 := Try.zeroValue60
  t39 := Try.underlying70
  a39 := Try.isAgg70
  z39 := Try.sizeOf70
  v39 := Try.zeroValue70
  t45 := Try.underlying81
  a45 := Try.isAgg81
  z45 := Try.sizeOf81
  v45 := Try.zeroValue81
  t46 := Try.underlying82
  a46 := Try.isAgg82
  z46 := Try.sizeOf82
  v46 := Try.zeroValue82
  t50 := Try.underlying51
  a50 := Try.isAgg51
  z50 := Try.sizeOf51
  v50 := Try.zeroValue51
  t53 := Try.underlying88
  a53 := Try.isAgg88
  z53 := Try.sizeOf88
  v53 := Try.zeroValue88
  t55 := Try.underlying90
  a55 := Try.isAgg90
  z55 := Try.sizeOf90
  v55 := Try.zeroValue90
  t66 := Try.underlying98
  a66 := Try.isAgg98
  z66 := Try.sizeOf98
  v66 := Try.zeroValue98
  t70 := Try.underlying102
  a70 := Try.isAgg102
  z70 := Try.sizeOf102
  v70 := Try.zeroValue102
  t76 := Try.underlying106
  a76 := Try.isAgg106
  z76 := Try.sizeOf106
  v76 := Try.zeroValue106
  t77 := Try.underlying107
  a77 := Try.isAgg107
  z77 := Try.sizeOf107
  v77 := Try.zeroValue107 }
open Go.RowKit Go.Lib Go.Sort in
theorem Try.slices_SortFunc_rows {α : Type} [Inhabited α] (enc : α → Value) (h1 : OneCell enc) (cf : α → α → Int) (hO : SWO (ltOf cf)) (g : Nat) (cb : Array Value) (blk off cap : Nat) (d : Array α) (w : World)
    (eg : ∀ args w, (callFunc g args).run Try.prog w = .ok (.enter g args) w) (hcmp : CmpLays1 Try.prog g cb enc cf blk off d.size w) (hH : Holds enc w blk off d) (hblk : blk < w.heap.size) (hsz : d.size < 4611686018427387904) :
    Calls Try.prog 90 #[.slice (some ⟨blk, off, none⟩) d.size cap, .func (.func g) #[] cb] w fun e w' =>
      e = .returned (.tuple #[]) ∧ ∃ d' n os, PermIn 0 d.size d d' ∧ SortedIn (ltOf cf) 0 d.size d' ∧ w' = sortWorld enc w blk off n d' os := Any.slices_SortFunc Try.sortL enc h1 cf hO g cb blk off cap d w eg hcmp hH hblk hsz
open Go.RowKit Go.Lib Go.Sort in
theorem Try.slices_SortFunc_rows_none (p : Option Addr) (cap : Nat) (fv : Value) (w : World) :
    Calls Try.prog 90 #[.slice p 0 cap, fv] w fun e w' => e = .returned (.tuple #[]) ∧ w' = w := AnyF.slices_SortFunc_none (P := Try.prog) (ρ := Try.sortL_ren) { Try.sortL with } p cap fv w
end Go.Proofs

/- slices.SortFunc of rows of numbers under slices.Compare: the row holds the same rows in the order of words. -/
namespace Go.Proofs.Ytlbhedhbakhhlaa.Q
open Go.Shelf Go.RowKit Go.Sort Go.Proofs.YtlbhedhbakhhlaaW.PrintWords Go.Proofs.YtlbhedhbakhhlaaW.PrintLast Go.Proofs.YtlbhedhbakhhlaaW.PrintMore

variable {w : World} {base : Nat}
theorem rowAt_one : OneCell (RowAt.v (w := w) (base := base)) := fun e => by
  obtain ⟨A, c, h⟩ := Kd.R_slice e.ho
  rw [h]
  rfl
def cmpR (a b : RowAt w base) : Int := lexI a.l b.l
theorem cmpR_lt (a b : RowAt w base) : ltOf cmpR a b = decide (lexI a.l b.l < 0) := rfl
theorem cmpR_swo : SWO (ltOf (cmpR (w := w) (base := base))) where
  irrefl x := by rw [cmpR_lt, lexI_self]; rfl
  trans x y z h1 h2 := by
    rw [cmpR_lt, decide_eq_true_eq] at *
    exact lexI_trans _ _ _ h1 h2
  ntrans x y z h1 h2 := by
    rw [cmpR_lt, decide_eq_false_iff_not] at *
    have e1 := lexI_anti x.l y.l
    have e2 := lexI_anti y.l z.l
    have e3 := lexI_anti x.l z.l
    have h := leL_trans z.l y.l x.l (by simp [leL]; omega) (by simp [leL]; omega)
    simp [leL] at h
    omega

/-- In a world in which the rows lie as they lay. -/
theorem rowAt_reads {W : World} (e : RowAt w base) (htb : ∀ (k : Nat) (cells : Array Value), w.heap[k]? = some (Obj.cells cells 3 (0, 0)) → W.heap[k]? = w.heap[k]?) :
    ∃ A c, e.v = .slice A e.l.length c ∧ e.l.length ≤ c ∧ Kd.C (Kd.int .i64) W A e.l.length e.l := by
  refine Kd.R_reads (e := 3) (base := base) (Kd.R_move (Kd.R_bound e.ho) fun i hi => ?_)
  obtain ⟨_, _, _, q, hq, cells, hc⟩ := hi
  have : q = 3 := by simpa [Kd.int, Kd.scalar] using hq
  subst this
  exact htb i cells hc

theorem put_typed {g n : Nat} {os : Array Obj} {cur : Array Value} (hh : w.heap[g]? = some (Obj.cells cur 22 (0, 0))) {α : Type} [Inhabited α] {enc : α → Value} (d : Array α) :
    ∀ (k : Nat) (cells : Array Value), w.heap[k]? = some (Obj.cells cells 3 (0, 0)) → (grow (putRow enc (Sort.ahead w n) g 0 d) os).heap[k]? = w.heap[k]? := by
  intro k cells hk
  refine (grown_put d).block k (Array.getElem?_eq_some_iff.1 hk).1 fun e => ?_
  obtain rfl := Option.some.inj e
  rw [hh] at hk
  cases hk

theorem cmp_lays {g : Nat} {cur : Array Value} (hh : w.heap[g]? = some (Obj.cells cur 22 (0, 0))) (size : Nat) :
    CmpLays1 Try.prog 87 #[] (RowAt.v (w := w) (base := base)) cmpR g 0 size w := by
  intro m os dk hs x y
  have ht := put_typed (n := m) (os := os) (enc := RowAt.v (w := w) (base := base)) hh dk
  obtain ⟨A, c, hx, hxc, hxr⟩ := rowAt_reads (W := sortWorld RowAt.v w g 0 m dk os) x ht
  obtain ⟨A', c', hy, hyc, hyr⟩ := rowAt_reads (W := sortWorld RowAt.v w g 0 m dk os) y ht
  rw [hx, hy]
  refine (slices_Compare_int_int.calls (x.l.length + 1) A c x.l A' c' y.l (lexI x.l y.l) _ hxr hxc hyr hyc (compare_ev x.l y.l hxr.2.1 _ (Nat.lt_succ_self _))).mono ?_
  rintro e w' ⟨rfl, n, rfl⟩
  exact ⟨rfl, n, #[], by rw [grow_empty]⟩

theorem sortRows.calls (v : Value) (s : List (List Int)) (hS : Kd.S (Kd.slice 3 (Kd.int .i64)) 22 w base (fun _ => True) v s) (hl : s.length < 4611686018427387904) (hw : base ≤ w.heap.size) :
    Calls Try.prog 90 #[v, .func (.func 87) #[] #[]] w fun e w' => e = .returned (.tuple #[]) ∧ Kd.S (Kd.slice 3 (Kd.int .i64)) 22 w' base (fun _ => True) v (s.mergeSort leL) ∧ Below base w w' := by
  rcases rows_open hS with ⟨rfl, rfl⟩ | ⟨g, cap, cur, es, rfl, hb, hh, h1, h2, h3, h4, rfl, hap⟩
  · refine (Try.slices_SortFunc_rows_none none 0 _ w).mono ?_
    rintro e w' ⟨rfl, rfl⟩
    exact ⟨rfl, by rw [List.mergeSort_nil]; exact Kd.S_nil _ _ _ _ _, Below.refl _ _⟩
  · have eg : ∀ args w, (callFunc 87 args).run Try.prog w = .ok (.enter 87 args) w := enters_of Try.func87 (by kernel_rfl) rfl
    rw [List.length_map] at h1 h4 hl ⊢
    have hcall := Try.slices_SortFunc_rows RowAt.v rowAt_one cmpR cmpR_swo 87 #[] g 0 cap es.toArray w eg (cmp_lays hh _) (holds_rows hh h4) (Array.getElem?_eq_some_iff.1 hh).1 (by simpa using hl)
    rw [List.size_toArray] at hcall
    refine hcall.mono ?_
    rintro e w' ⟨rfl, d', n, os, ⟨hsz, _, hperm⟩, hsorted, rfl⟩
    have hsz' : d'.size = es.length := by simpa using hsz
    have hp : d'.toList.Perm es := by
      have e1 : d'.extract 0 es.length = d' := by rw [← hsz']; exact Array.extract_size
      have e2 : es.toArray.extract 0 es.length = es.toArray := by
        have : es.length = es.toArray.size := by simp
        rw [this]
        exact Array.extract_size
      rw [e1, e2] at hperm
      simpa using hperm
    have hcontent : d'.toList.map RowAt.l = (es.map RowAt.l).mergeSort leL := by
      refine List.Perm.eq_of_pairwise (le := fun x y => leL x y = true) (fun a b _ _ => leL_antisymm a b) ?_ (List.pairwise_mergeSort leL_trans leL_total _) ((hp.map _).trans (List.mergeSort_perm _ _).symm)
      rw [List.pairwise_map, List.pairwise_iff_getElem]
      intro i j hi hj hij
      have hi' : i < d'.size := by simpa using hi
      have hj' : j < d'.size := by simpa using hj
      have h := hsorted i j (Nat.zero_le _) hij (by omega)
      rw [getElem!_pos d' j hj', getElem!_pos d' i hi', cmpR_lt, decide_eq_false_iff_not] at h
      rw [lexI_anti] at h
      simp only [Array.getElem_toList, leL, decide_eq_true_eq]
      omega
    rw [← hcontent]
    have hlen : d'.toList.length = es.length := by simpa using hsz'
    refine ⟨rfl, ?_, ?_⟩
    · have := rows_shut (W := sortWorld RowAt.v w g 0 n d' os) (es := d'.toList) (cap := cap) hb (heap_put d' hh) (by omega) h2 (by simp [putCells, h3]) (by
        have := take_put (enc := RowAt.v (w := w) (base := base)) cur d'.toList d'.toList.length (Nat.le_refl _) (by omega)
        rw [List.take_length, Array.toArray_toList] at this
        exact this) (hp.symm.pairwise hap (fun h => h.symm)) (put_typed hh d')
      rw [hlen] at this
      exact this
    · exact (Below.refl base w).grown (grown_put d') hw (fun k hk => by obtain rfl := Option.some.inj hk; exact hb)
end Go.Proofs.Ytlbhedhbakhhlaa.Q

/- slices.CompactFunc of rows of numbers under slices.Equal: of equal neighbours one stays. -/
namespace Go.Proofs.Ytlbhedhbakhhlaa.Q
open Go.Shelf Go.RowKit Go.Sort Go.Proofs.YtlbhedhbakhhlaaW.PrintWords Go.Proofs.YtlbhedhbakhhlaaW.PrintLast Go.Proofs.YtlbhedhbakhhlaaW.PrintMore
set_option linter.unusedVariables false
set_option linter.unusedSimpArgs false

variable {w : World} {base : Nat}
def keepR (es : List (RowAt w base)) (j : Nat) : Bool := Lib.keeps (es.map RowAt.l).toArray j
def upR (es : List (RowAt w base)) : Nat → List (RowAt w base)
  | 0 => []
  | m + 1 => upR es m ++ if keepR es m then [es[m]!] else []
theorem upR_content (es : List (RowAt w base)) : ∀ m, m ≤ es.length → (upR es m).map RowAt.l = Lib.compactUpTo (es.map RowAt.l).toArray m
  | 0, _ => rfl
  | m + 1, h => by
    rw [Lib.compactUpTo_succ, upR, List.map_append, upR_content es m (by omega)]
    congr 1
    have : (es.map RowAt.l).toArray[m]! = es[m]!.l := by
      rw [getElem!_pos _ _ (by simp; omega), getElem!_pos es m (by omega)]
      simp
    unfold keepR
    split <;> simp [this]
theorem upR_sub (es : List (RowAt w base)) : ∀ m, m ≤ es.length → (upR es m).Sublist (es.take m)
  | 0, _ => by simp [upR]
  | m + 1, h => by
    rw [upR, List.take_succ_eq_append_getElem (by omega)]
    refine List.Sublist.append (upR_sub es m (by omega)) ?_
    split
    · rw [getElem!_pos es m (by omega)]
      exact List.Sublist.refl _
    · exact List.nil_sublist _
theorem keepR_first (es : List (RowAt w base)) : ∀ j, j < 1 → keepR es j = true := Lib.keeps_lt_one _
theorem map_get (es : List (RowAt w base)) (j : Nat) (h : j < es.length) : (es.map RowAt.l).toArray[j]! = es[j]!.l := by
  rw [getElem!_pos _ _ (by simp; omega), getElem!_pos es j h]
  simp
theorem keepR_pos {es : List (RowAt w base)} {m : Nat} (h0 : m < es.length) (h : es[m]!.l ≠ es[m - 1]!.l) : keepR es m = true := by
  refine Lib.keeps_pos ?_
  rw [map_get es m h0, map_get es (m - 1) (by omega)]
  exact h
theorem keepR_neg {es : List (RowAt w base)} {m : Nat} (hm : 0 < m) (h0 : m < es.length) (h : es[m]!.l = es[m - 1]!.l) : keepR es m = false := by
  refine Lib.keeps_neg hm ?_
  rw [map_get es m h0, map_get es (m - 1) (by omega)]
  exact h
theorem upR_all (es : List (RowAt w base)) : ∀ m, m ≤ es.length → (∀ j, j < m → keepR es j = true) → upR es m = es.take m
  | 0, _, _ => by simp [upR]
  | m + 1, h, hk => by
    rw [upR, upR_all es m (by omega) (fun j hj => hk j (by omega)), hk m (by omega), if_pos rfl, List.take_succ_eq_append_getElem (by omega), getElem!_pos es m (by omega)]

/-- m places have been looked at, k are kept; they lie at the head; from place k on the row is as it was. -/
structure CInv (es : List (RowAt w base)) (m k : Nat) (dk : Array (RowAt w base)) : Prop where
  size : dk.size = es.length
  len : (upR es m).length = k
  lt : k < m
  low : ∀ j, j < k → (upR es m)[j]? = some dk[j]!
  high : ∀ j, k ≤ j → dk[j]! = es.toArray[j]!
theorem CInv.start {es : List (RowAt w base)} {k0 : Nat} (hk0 : k0 < es.length) (hall : ∀ j, j < k0 → keepR es j = true) (hdup : keepR es k0 = false) : CInv es (k0 + 1) k0 es.toArray where
  size := by simp
  len := by rw [upR, hdup, upR_all es k0 (by omega) hall]; simp; omega
  lt := Nat.lt_succ_self _
  low := fun j hj => by
    rw [upR, hdup, upR_all es k0 (by omega) hall]
    simp [hj]
    rw [List.getElem?_eq_getElem (by omega)]
    rfl
  high := fun _ _ => rfl
theorem CInv.keep {es : List (RowAt w base)} {dk : Array (RowAt w base)} {m k : Nat} (h : CInv es m k dk) (hm : m < es.length) (hk : keepR es m = true) : CInv es (m + 1) (k + 1) (dk.setIfInBounds k es[m]!) where
  size := by simp [h.size]
  len := by rw [upR, hk]; simp [h.len]
  lt := by have := h.lt; omega
  low := fun j hj => by
    rw [upR, hk, if_pos rfl]
    by_cases e : j = k
    · subst e
      rw [List.getElem?_append_right (by rw [h.len]; exact Nat.le_refl _), h.len, Nat.sub_self, getElem!_set_same dk j _ (by have := h.lt; have := h.size; omega)]
      rfl
    · rw [List.getElem?_append_left (by rw [h.len]; omega), h.low j (by omega), getElem!_set_other dk k j _ e]
  high := fun j hj => by rw [getElem!_set_other dk k j _ (by omega), h.high j (by omega)]
theorem CInv.skip {es : List (RowAt w base)} {dk : Array (RowAt w base)} {m k : Nat} (h : CInv es m k dk) (hk : keepR es m = false) : CInv es (m + 1) k dk where
  size := h.size
  len := by rw [upR, hk]; simpa using h.len
  lt := by have := h.lt; omega
  low := fun j hj => by rw [upR, hk]; simpa using h.low j hj
  high := h.high

theorem put_size {α : Type} [Inhabited α] {enc : α → Value} {w : World} {g n : Nat} (d : Array α) : (putRow enc (Sort.ahead w n) g 0 d).heap.size = w.heap.size := by simp [putRow, mapBlock, Sort.ahead]

/-- The call of slices.Equal at two rows, in a world in which the rows lie as they lay. -/
theorem eq_call (a b : RowAt w base) (W : World) (htb : ∀ (k : Nat) (cells : Array Value), w.heap[k]? = some (Obj.cells cells 3 (0, 0)) → W.heap[k]? = w.heap[k]?) :
    Calls Try.prog 59 #[a.v, b.v] W fun e w' => e = .returned (.bool (decide (a.l = b.l))) ∧ ∃ n, w' = W.drewN n := by
  obtain ⟨A, c, hx, hxc, hxr⟩ := rowAt_reads (W := W) a htb
  obtain ⟨A', c', hy, hyc, hyr⟩ := rowAt_reads (W := W) b htb
  rw [hx, hy]
  refine (slices_Equal_int_int.calls (a.l.length + 1) A c a.l A' c' b.l _ _ hxr hxc hyr hyc (equal_ev a.l b.l hxr.2.1 _ (Nat.lt_succ_self _))).mono ?_
  rintro e w' ⟨rfl, n, hn⟩
  exact ⟨rfl, n, hn⟩
theorem get_arr (es : List (RowAt w base)) (j : Nat) (h : j < es.length) : es.toArray[j]! = es[j]! := by
  rw [getElem!_pos _ _ (by simpa using h), getElem!_pos es j h]
  simp
theorem rowAt_v (a : RowAt w base) : ∃ A c, a.v = .slice A a.l.length c := Kd.R_slice a.ho

-- WALK
def compactF.T6 : Bool × List (List Nat × List Nat) := (true, [([], []), ([], []), ([], []), ([1, 2], [1, 2]), ([3], [3]), ([], []), ([], []), ([6], [6]), ([5, 7], [5, 7]), ([8], [8]), ([0, 4, 9], [0, 4, 9])])
def compactF.B6 : List Nat := [0, 0, 0, 6, 14, 0, 0, 64, 224, 480, 1023]
theorem compactF.tab6 : rtab .any (opsOf Try.f91 6) = compactF.T6 := by kernel_rfl
theorem compactF.bits6 : waitsOk compactF.T6.2 compactF.B6 = true := by kernel_rfl
def compactF.T11 : Bool × List (List Nat × List Nat) := (true, [([], []), ([], []), ([], []), ([1, 2], [1, 2]), ([3], [3]), ([], []), ([], []), ([6], [6]), ([5, 7], [5, 7]), ([8], [8]), ([0, 4, 9], [0, 4, 9]), ([10], [10])])
def compactF.B11 : List Nat := [0, 0, 0, 6, 14, 0, 0, 64, 224, 480, 1023, 2047]
theorem compactF.tab11 : rtab .any (opsOf Try.f91 11) = compactF.T11 := by kernel_rfl
theorem compactF.bits11 : waitsOk compactF.T11.2 compactF.B11 = true := by kernel_rfl

theorem store_at {g m q kk : Nat} {dk : Array (RowAt w base)} (h : kk < dk.size) (e : RowAt w base) : ((putRow RowAt.v (Sort.ahead w m) g 0 dk).drewN q).setCell ⟨g, kk, none⟩ e.v = putRow RowAt.v (Sort.ahead w (m + q)) g 0 (dk.setIfInBounds kk e) := by
  have := putRow_set RowAt.v (Sort.ahead w (m + q)) g 0 dk kk e h
  rw [Nat.zero_add] at this
  rw [putRow_drewN, this]
theorem lay_size {α : Type} : ∀ (xs : List α) (d : Array α) (k : Nat), (Lib.lay d k xs).size = d.size
  | [], _, _ => rfl
  | x :: r, d, k => by rw [Lib.lay, lay_size r]; simp
theorem world_start {g : Nat} {es : List (RowAt w base)} (h : Holds RowAt.v w g 0 es.toArray) (q : Nat) : w.drewN q = putRow RowAt.v (Sort.ahead w q) g 0 es.toArray :=
  (putRow_self RowAt.v (Sort.ahead w q) g 0 es.toArray (holds_ahead RowAt.v w _ g 0 es.toArray h)).symm

set_option maxHeartbeats 8000000 in
set_option maxRecDepth 1000000 in
theorem compactRows_arr (g cap : Nat) (cur : Array Value) (es : List (RowAt w base)) (hb : base ≤ g) (hh : w.heap[g]? = some (Obj.cells cur 22 (0, 0))) (h1 : es.length ≤ cap) (h2 : cap ≤ maxLen) (h3 : cur.size = cap)
    (h4 : cur.toList.take es.length = es.map RowAt.v) (hl : es.length ≤ 1000000) :
    Calls Try.prog 91 #[.slice (some ⟨g, 0, none⟩) es.length cap, .func (.func 59) #[] #[]] w fun e w' =>
      e = .returned (.slice (some ⟨g, 0, none⟩) (upR es es.length).length cap) ∧ ∃ q d, d.size = es.length ∧ (∀ j, j < (upR es es.length).length → (upR es es.length)[j]? = some d[j]!) ∧ w' = putRow RowAt.v (Sort.ahead w q) g 0 d := by
  have hH : Holds RowAt.v w g 0 es.toArray := holds_rows hh h4
  have same : ∀ q, (∀ j, j < es.length → keepR es j = true) → (upR es es.length).length = es.length ∧ ∃ q' d, d.size = es.length ∧ (∀ j, j < (upR es es.length).length → (upR es es.length)[j]? = some d[j]!) ∧ w.drewN q = putRow RowAt.v (Sort.ahead w q') g 0 d := by
    intro q hall
    rw [upR_all es es.length (Nat.le_refl _) hall, List.take_length]
    refine ⟨rfl, q, es.toArray, by simp, fun j hj => ?_, (putRow_self RowAt.v (Sort.ahead w q) g 0 es.toArray (holds_ahead RowAt.v w q g 0 es.toArray hH)).symm⟩
    rw [List.getElem?_eq_getElem hj, getElem!_pos _ _ (by simpa using hj)]
    simp
  have HS := Aside0.mk same
  clear same
  have HH := Aside0.mk hH
  have HX := Aside0.mk hh
  have HC := Aside0.mk h1
  have HM := Aside0.mk h2
  have HZ := Aside0.mk h3
  clear hH hh h1 h2 h3 h4
  by_cases hs : es.length < 2
  · have hs0 : decide ((es.length : Int) < 2) = true := decide_eq_true (by omega)
    go_enter Try.func91, Try.ntmps91
    go_wp2
    go_ret
    obtain ⟨e1, e2⟩ := HS.out 0 (fun j hj => keepR_first es j (by omega))
    exact ⟨by rw [e1]; rfl, e2⟩
  · have hs0 : decide ((es.length : Int) < 2) = false := decide_eq_false (by omega)
    go_enter Try.func91, Try.ntmps91
    go_wp2
    go_loopg [5] es.length (fun gk v5 wr => ∃ k q : Nat, 1 ≤ k ∧ k ≤ es.length ∧ es.length - k ≤ gk ∧ v5 = .int .i64 k ∧ wr = w.drewN q ∧ ∀ j, j < k → keepR es j = true)
    case atStart => exact ⟨1, 0, by omega, by omega, by omega, rfl, rfl, keepR_first es⟩
    case round =>
      obtain ⟨k, q, hk1, hk, hg, rfl, rfl, hall⟩ := hrel
      by_cases hlt : k < es.length
      · obtain ⟨c1, f1⟩ := HH.out k (by simpa using hlt)
        obtain ⟨c0, f0⟩ := HH.out (k - 1) (by simp; omega)
        rw [get_arr es k hlt, Nat.zero_add] at c1
        rw [get_arr es (k - 1) (by omega), Nat.zero_add] at c0
        have hcall := fun W htb => eq_call es[k]! es[k - 1]! W htb
        obtain ⟨Ax, cx, ex⟩ := rowAt_v es[k]!
        obtain ⟨Ay, cy, ey⟩ := rowAt_v es[k - 1]!
        rw [ex] at c1 hcall
        rw [ey] at c0 hcall
        have A := Aside0.mk hall
        have HQ := Aside0.mk hcall
        clear hall hcall f1 f0 ex ey
        by_cases hdup : es[k]!.l = es[k - 1]!.l
        · have hd0 := 0
          have hd : decide (es[k]!.l = es[k - 1]!.l) = true := decide_eq_true hdup
          have hdup' := Aside0.mk hdup
          clear hdup
          generalize es[k]!.l.length = lx at c1 HQ
          generalize es[k - 1]!.l.length = ly at c0 HQ
          generalize decide (es[k]!.l = es[k - 1]!.l) = r at hd HQ
          subst hd
          have hw1 : IntKind.i64.wrap ((k : Int) - 1) = ((k - 1 : Nat) : Int) := by rw [i64_w, wrap_of (by omega) (by omega)]; omega
          have hw2 : wrap64 ((k : Int) - 1) = ((k - 1 : Nat) : Int) := by rw [wrap_of (by omega) (by omega)]; omega
          have hw3 : decide (((k - 1 : Nat) : Int) < (es.length : Int)) = true := decide_eq_true (by omega)
          have hw4 : k - 1 < es.length := by omega
          go_wp2_with fail
          refine start_ (n := 11) (S := fun w' => w'.cell? ⟨g, k, none⟩ = some (.slice Ax lx cx) ∧ w'.cell? ⟨g, k - 1, none⟩ = some (.slice Ay ly cy)) (ds := []) #[false, false, false, false, false, false, false, false, false, false, false] (by kernel_rfl) rfl rfl ⟨c1, c0⟩ (fun hHeld => ?_); refine with_tabW compactF.tab6 compactF.bits6 (fun HT_ HW_ => ?_)
          refine pure_ (i := 0) (N := some 18) (v := ?_) (a' := ?_) #[true, false, false, false, false, false, false, false, false, false, false] rfl rfl (any_of HT_.out (by kernel_rfl)) (fun _ _ _ h => h) (Or.inl ⟨by rfl, ?_⟩) ?_ ?_
          rotate_left
          · intro w'
            go_simp
            with_reducible rfl
          rotate_left
          · simp only [Act.put, List.setIfInBounds_toArray, List.set_cons_zero, List.set_cons_succ, i64_w, i32_w]
            rfl
          refine pure_ (i := 1) (N := some 19) (v := ?_) (a' := ?_) #[true, true, false, false, false, false, false, false, false, false, false] rfl rfl (any_of HT_.out (by kernel_rfl)) (fun _ _ _ h => h) (Or.inl ⟨by rfl, ?_⟩) ?_ ?_
          rotate_left
          · intro w'
            go_simp
            with_reducible rfl
          rotate_left
          · simp only [Act.put, List.setIfInBounds_toArray, List.set_cons_zero, List.set_cons_succ, i64_w, i32_w]
            rfl
          refine pure_ (i := 2) (N := some 20) (v := ?_) (a' := ?_) #[true, true, true, false, false, false, false, false, false, false, false] rfl rfl (any_of HT_.out (by kernel_rfl)) (fun _ _ _ h => h) (Or.inl ⟨by rfl, ?_⟩) ?_ ?_
          rotate_left
          · intro w'
            go_simp
            with_reducible rfl
          rotate_left
          · simp only [Act.put, List.setIfInBounds_toArray, List.set_cons_zero, List.set_cons_succ, i64_w, i32_w]
            rfl
          refine pure_ (i := 5) (N := some 23) (v := ?_) (a' := ?_) #[true, true, true, false, false, true, false, false, false, false, false] rfl rfl (any_of HT_.out (by kernel_rfl)) (fun _ _ _ h => h) (Or.inl ⟨by rfl, ?_⟩) ?_ ?_
          rotate_left
          · intro w'
            go_simp
            with_reducible rfl
          rotate_left
          · simp only [Act.put, List.setIfInBounds_toArray, List.set_cons_zero, List.set_cons_succ, i64_w, i32_w]
            rfl
          refine pure_ (i := 6) (N := some 24) (v := ?_) (a' := ?_) #[true, true, true, false, false, true, true, false, false, false, false] rfl rfl (any_of HT_.out (by kernel_rfl)) (fun _ _ _ h => h) (Or.inl ⟨by rfl, ?_⟩) ?_ ?_
          rotate_left
          · intro w'
            go_simp
            with_reducible rfl
          rotate_left
          · simp only [Act.put, List.setIfInBounds_toArray, List.set_cons_zero, List.set_cons_succ, i64_w, i32_w]
            rfl
          refine pure_ (i := 7) (N := some 25) (v := ?_) (a' := ?_) #[true, true, true, false, false, true, true, true, false, false, false] rfl rfl (any_of HT_.out (by kernel_rfl)) (fun _ _ _ h => h) (Or.inl ⟨by rfl, ?_⟩) ?_ ?_
          rotate_left
          · intro w'
            go_simp
            with_reducible rfl
          rotate_left
          · simp only [Act.put, List.setIfInBounds_toArray, List.set_cons_zero, List.set_cons_succ, i64_w, i32_w]
            rfl
          refine pure_ (i := 3) (N := some 21) (v := ?_) (a' := ?_) #[true, true, true, true, false, true, true, true, false, false, false] rfl rfl (any_of HT_.out (by kernel_rfl)) (fun _ _ _ h => h) (Or.inl ⟨by rfl, ?_⟩) ?_ ?_
          rotate_left
          · intro w'
            go_simp
            with_reducible rfl
          rotate_left
          · simp only [Act.put, List.setIfInBounds_toArray, List.set_cons_zero, List.set_cons_succ, i64_w, i32_w]
            rfl
          refine pure_ (i := 8) (N := some 26) (v := ?_) (a' := ?_) #[true, true, true, true, false, true, true, true, true, false, false] rfl rfl (any_of HT_.out (by kernel_rfl)) (fun _ _ _ h => h) (Or.inl ⟨by rfl, ?_⟩) ?_ ?_
          rotate_left
          · intro w'
            go_simp
            with_reducible rfl
          rotate_left
          · simp only [Act.put, List.setIfInBounds_toArray, List.set_cons_zero, List.set_cons_succ, i64_w, i32_w]
            rfl
          refine take_ (i := 4) (N := some 22) (v := ?_) (a' := ?_) #[true, true, true, true, true, true, true, true, true, false, false] rfl rfl (take_ofW HT_.out HW_.out (by kernel_rfl)) (fun _ _ _ h => h) (Or.inl ⟨by rfl, ?_⟩) hHeld ?_ ?_
          rotate_left
          · rintro w' ⟨s0, s1⟩
            go_simp
            with_reducible rfl
          rotate_left
          · simp only [Act.put, List.setIfInBounds_toArray, List.set_cons_zero, List.set_cons_succ, i64_w, i32_w]
            rfl
          refine take_ (i := 9) (N := some 27) (v := ?_) (a' := ?_) #[true, true, true, true, true, true, true, true, true, true, false] rfl rfl (take_ofW HT_.out HW_.out (by kernel_rfl)) (fun _ _ _ h => h) (Or.inl ⟨by rfl, ?_⟩) hHeld ?_ ?_
          rotate_left
          · rintro w' ⟨s0, s1⟩
            go_simp
            with_reducible rfl
          rotate_left
          · simp only [Act.put, List.setIfInBounds_toArray, List.set_cons_zero, List.set_cons_succ, i64_w, i32_w]
            rfl
          refine one_ (i := 10) (N := some 28) #[true, true, true, true, true, true, true, true, true, true, true] rfl rfl (one_of HT_.out (by kernel_rfl)) (by decide) (fun K hK => ?_)
          refine call_ 59 #[.slice Ax lx cx, .slice Ay ly cy] (by rfl) rfl ?hrun ?_
          (case hrun => have he_ := enters_ Try.func59 (by kernel_rfl) rfl #[.slice Ax lx cx, .slice Ay ly cy] ((w.drewN q).drew); unfold execOp; simp [resolve, Deferred.ofValue, invoke, Act.eval, he_])
          refine (HQ.out _ ?tb).mono ?_
          (case tb => exact fun _ _ _ => rfl)
          rintro e w' ⟨rfl, n, rfl⟩
          refine ⟨_, rfl, ?_⟩
          refine hK.out _ _ ⟨c1, c0⟩ (fun hHeld => ?_)
          clear hK K
          refine norm_ (a' := ?_) ?_ ?_
          rotate_left
          · show Act.put _ (some 28) _ = _
            simp only [Act.put, List.setIfInBounds_toArray, List.set_cons_zero, List.set_cons_succ, i64_w, i32_w]
            rfl
          refine done_ (done_of HT_.out (by kernel_rfl)) ?_
          have hc1 := HC.out
          go_wp2
          clear c0 c1
          go_loopg [5, 7] es.length (fun gk v5 v7 wr => ∃ (kk k2 q2 : Nat) (dk : Array (RowAt w base)), v5 = .int .i64 kk ∧ v7 = .int .i64 k2 ∧ 1 ≤ k2 ∧ k + k2 ≤ es.length ∧ es.length - (k + k2) ≤ gk ∧ wr = putRow RowAt.v (Sort.ahead w q2) g 0 dk ∧ CInv es (k + k2) kk dk)
          case atStart => exact ⟨k, 1, q + 1 + n, es.toArray, rfl, rfl, Nat.le_refl _, by omega, by omega, world_start HH.out _, CInv.start hlt A.out (keepR_neg (by omega) hlt hdup'.out)⟩
          case round =>
            obtain ⟨kk, k2, q2, dk, rfl, rfl, h1, hle, hg2, hwr, hI⟩ := hrel
            have hkk := hI.lt
            have hds := hI.size
            have hHk : Holds RowAt.v wr g 0 dk := by rw [hwr]; exact holds_putRow RowAt.v _ g 0 es.toArray dk (holds_ahead RowAt.v w q2 g 0 es.toArray HH.out) (by simpa using hds)
            have TBK := Aside0.mk (show ∀ (m : Nat) (i : Nat) (cells : Array Value), w.heap[i]? = some (Obj.cells cells 3 (0, 0)) → (wr.drewN m).heap[i]? = w.heap[i]? from fun m i cells hi => by
              rw [hwr]
              have := put_typed (n := q2) (os := #[]) (enc := RowAt.v (w := w) (base := base)) HX.out dk i cells hi
              rw [grow_empty] at this
              exact this)
            have W2 := Aside0.mk hwr
            have I2 := Aside0.mk hI
            clear hwr
            by_cases hlt2 : k + k2 < es.length
            · obtain ⟨c1, _⟩ := hHk (k + k2) (by omega)
              obtain ⟨c0, _⟩ := hHk (k + (k2 - 1)) (by omega)
              obtain ⟨ck, fk⟩ := hHk kk (by omega)
              rw [hI.high (k + k2) (by omega), get_arr es _ hlt2, Nat.zero_add] at c1
              rw [hI.high (k + (k2 - 1)) (by omega), get_arr es _ (by omega), Nat.zero_add] at c0
              rw [Nat.zero_add] at ck fk
              clear hHk hI
              have hcall := fun W htb => eq_call es[k + k2]! es[k + (k2 - 1)]! W htb
              obtain ⟨Ax, cx, ex⟩ := rowAt_v es[k + k2]!
              obtain ⟨Ay, cy, ey⟩ := rowAt_v es[k + (k2 - 1)]!
              have EX := Aside0.mk ex
              rw [ex] at c1 hcall
              rw [ey] at c0 hcall
              have HQ := Aside0.mk hcall
              clear hcall ex ey
              generalize dk[kk]! = old at ck
              obtain ⟨Ak, ck', ek⟩ := rowAt_v old
              rw [ek] at ck
              clear ek
              have hc1 := HC.out
              have hw1 : IntKind.i64.wrap ((k2 : Int) - 1) = ((k2 - 1 : Nat) : Int) := by rw [i64_w, wrap_of (by omega) (by omega)]; omega
              have hw2 : wrap64 ((k2 : Int) - 1) = ((k2 - 1 : Nat) : Int) := by rw [wrap_of (by omega) (by omega)]; omega
              have hw3 : k2 - 1 < es.length - k := by omega
              have hw4 : k2 < es.length - k := by omega
              by_cases hdup : es[k + k2]!.l = es[k + (k2 - 1)]!.l
              · have hd : decide (es[k + k2]!.l = es[k + (k2 - 1)]!.l) = true := decide_eq_true hdup
                have hdup2 := Aside0.mk hdup
                clear hdup
                generalize es[k + k2]!.l.length = lx at c1 HQ EX
                generalize es[k + (k2 - 1)]!.l.length = ly at c0 HQ
                generalize decide (es[k + k2]!.l = es[k + (k2 - 1)]!.l) = r at hd HQ
                subst hd
                go_wp2_with fail
                refine start_ (n := 12) (S := fun w' => w'.cell? ⟨g, k + k2, none⟩ = some (.slice Ax lx cx) ∧ w'.cell? ⟨g, k + (k2 - 1), none⟩ = some (.slice Ay ly cy)) (ds := []) #[false, false, false, false, false, false, false, false, false, false, false, false] (by kernel_rfl) rfl rfl ⟨c1, c0⟩ (fun hHeld => ?_); refine with_tabW compactF.tab11 compactF.bits11 (fun HT_ HW_ => ?_)
                refine pure_ (i := 0) (N := some 38) (v := ?_) (a' := ?_) #[true, false, false, false, false, false, false, false, false, false, false, false] rfl rfl (any_of HT_.out (by kernel_rfl)) (fun _ _ _ h => h) (Or.inl ⟨by rfl, ?_⟩) ?_ ?_
                rotate_left
                · intro w'
                  go_simp
                  with_reducible rfl
                rotate_left
                · simp only [Act.put, List.setIfInBounds_toArray, List.set_cons_zero, List.set_cons_succ, i64_w, i32_w]
                  rfl
                refine pure_ (i := 1) (N := some 39) (v := ?_) (a' := ?_) #[true, true, false, false, false, false, false, false, false, false, false, false] rfl rfl (any_of HT_.out (by kernel_rfl)) (fun _ _ _ h => h) (Or.inl ⟨by rfl, ?_⟩) ?_ ?_
                rotate_left
                · intro w'
                  go_simp
                  with_reducible rfl
                rotate_left
                · simp only [Act.put, List.setIfInBounds_toArray, List.set_cons_zero, List.set_cons_succ, i64_w, i32_w]
                  rfl
                refine pure_ (i := 2) (N := some 40) (v := ?_) (a' := ?_) #[true, true, true, false, false, false, false, false, false, false, false, false] rfl rfl (any_of HT_.out (by kernel_rfl)) (fun _ _ _ h => h) (Or.inl ⟨by rfl, ?_⟩) ?_ ?_
                rotate_left
                · intro w'
                  go_simp
                  with_reducible rfl
                rotate_left
                · simp only [Act.put, List.setIfInBounds_toArray, List.set_cons_zero, List.set_cons_succ, i64_w, i32_w]
                  rfl
                refine pure_ (i := 5) (N := some 43) (v := ?_) (a' := ?_) #[true, true, true, false, false, true, false, false, false, false, false, false] rfl rfl (any_of HT_.out (by kernel_rfl)) (fun _ _ _ h => h) (Or.inl ⟨by rfl, ?_⟩) ?_ ?_
                rotate_left
                · intro w'
                  go_simp
                  with_reducible rfl
                rotate_left
                · simp only [Act.put, List.setIfInBounds_toArray, List.set_cons_zero, List.set_cons_succ, i64_w, i32_w]
                  rfl
                refine pure_ (i := 6) (N := some 44) (v := ?_) (a' := ?_) #[true, true, true, false, false, true, true, false, false, false, false, false] rfl rfl (any_of HT_.out (by kernel_rfl)) (fun _ _ _ h => h) (Or.inl ⟨by rfl, ?_⟩) ?_ ?_
                rotate_left
                · intro w'
                  go_simp
                  with_reducible rfl
                rotate_left
                · simp only [Act.put, List.setIfInBounds_toArray, List.set_cons_zero, List.set_cons_succ, i64_w, i32_w]
                  rfl
                refine pure_ (i := 7) (N := some 45) (v := ?_) (a' := ?_) #[true, true, true, false, false, true, true, true, false, false, false, false] rfl rfl (any_of HT_.out (by kernel_rfl)) (fun _ _ _ h => h) (Or.inl ⟨by rfl, ?_⟩) ?_ ?_
                rotate_left
                · intro w'
                  go_simp
                  with_reducible rfl
                rotate_left
                · simp only [Act.put, List.setIfInBounds_toArray, List.set_cons_zero, List.set_cons_succ, i64_w, i32_w]
                  rfl
                refine pure_ (i := 3) (N := some 41) (v := ?_) (a' := ?_) #[true, true, true, true, false, true, true, true, false, false, false, false] rfl rfl (any_of HT_.out (by kernel_rfl)) (fun _ _ _ h => h) (Or.inl ⟨by rfl, ?_⟩) ?_ ?_
                rotate_left
                · intro w'
                  go_simp
                  with_reducible rfl
                rotate_left
                · simp only [Act.put, List.setIfInBounds_toArray, List.set_cons_zero, List.set_cons_succ, i64_w, i32_w]
                  rfl
                refine pure_ (i := 8) (N := some 46) (v := ?_) (a' := ?_) #[true, true, true, true, false, true, true, true, true, false, false, false] rfl rfl (any_of HT_.out (by kernel_rfl)) (fun _ _ _ h => h) (Or.inl ⟨by rfl, ?_⟩) ?_ ?_
                rotate_left
                · intro w'
                  go_simp
                  with_reducible rfl
                rotate_left
                · simp only [Act.put, List.setIfInBounds_toArray, List.set_cons_zero, List.set_cons_succ, i64_w, i32_w]
                  rfl
                refine take_ (i := 4) (N := some 42) (v := ?_) (a' := ?_) #[true, true, true, true, true, true, true, true, true, false, false, false] rfl rfl (take_ofW HT_.out HW_.out (by kernel_rfl)) (fun _ _ _ h => h) (Or.inl ⟨by rfl, ?_⟩) hHeld ?_ ?_
                rotate_left
                · rintro w' ⟨s0, s1⟩
                  go_simp
                  with_reducible rfl
                rotate_left
                · simp only [Act.put, List.setIfInBounds_toArray, List.set_cons_zero, List.set_cons_succ, i64_w, i32_w]
                  rfl
                refine take_ (i := 9) (N := some 47) (v := ?_) (a' := ?_) #[true, true, true, true, true, true, true, true, true, true, false, false] rfl rfl (take_ofW HT_.out HW_.out (by kernel_rfl)) (fun _ _ _ h => h) (Or.inl ⟨by rfl, ?_⟩) hHeld ?_ ?_
                rotate_left
                · rintro w' ⟨s0, s1⟩
                  go_simp
                  with_reducible rfl
                rotate_left
                · simp only [Act.put, List.setIfInBounds_toArray, List.set_cons_zero, List.set_cons_succ, i64_w, i32_w]
                  rfl
                refine one_ (i := 10) (N := some 48) #[true, true, true, true, true, true, true, true, true, true, true, false] rfl rfl (one_of HT_.out (by kernel_rfl)) (by decide) (fun K hK => ?_)
                refine call_ 59 #[.slice Ax lx cx, .slice Ay ly cy] (by rfl) rfl ?hrun ?_
                (case hrun => have he_ := enters_ Try.func59 (by kernel_rfl) rfl #[.slice Ax lx cx, .slice Ay ly cy] (wr.drew); unfold execOp; simp [resolve, Deferred.ofValue, invoke, Act.eval, he_])
                refine (HQ.out _ ?tb).mono ?_
                (case tb => exact TBK.out _)
                rintro e w' ⟨rfl, n, rfl⟩
                refine ⟨_, rfl, ?_⟩
                refine hK.out _ _ ⟨c1, c0⟩ (fun hHeld => ?_)
                clear hK K
                refine norm_ (a' := ?_) ?_ ?_
                rotate_left
                · show Act.put _ (some 48) _ = _
                  simp only [Act.put, List.setIfInBounds_toArray, List.set_cons_zero, List.set_cons_succ, i64_w, i32_w]
                  rfl
                refine pure_ (i := 11) (N := some 49) (v := ?_) (a' := ?_) #[true, true, true, true, true, true, true, true, true, true, true, true] rfl rfl (any_of HT_.out (by kernel_rfl)) (fun _ _ _ h => h) (Or.inl ⟨by rfl, ?_⟩) ?_ ?_
                rotate_left
                · intro w'
                  go_simp
                  with_reducible rfl
                rotate_left
                · simp only [Act.put, List.setIfInBounds_toArray, List.set_cons_zero, List.set_cons_succ, i64_w, i32_w]
                  rfl
                refine done_ (done_of HT_.out (by kernel_rfl)) ?_
                go_wp2
                go_roundg (es.length - (k + (k2 + 1)))
                case measure => omega
                case rel => exact ⟨kk, k2 + 1, _, dk, rfl, by go_num, by omega, by omega, Nat.le_refl _, by rw [W2.out]; exact putRow_drewN _ _ _ _ _ _ _, I2.out.skip (keepR_neg (by omega) hlt2 (by rw [show k + k2 - 1 = k + (k2 - 1) by omega]; exact hdup2.out))⟩
              · have hd : decide (es[k + k2]!.l = es[k + (k2 - 1)]!.l) = false := decide_eq_false hdup
                have hdup2 := Aside0.mk hdup
                clear hdup
                generalize es[k + k2]!.l.length = lx at c1 HQ EX
                generalize es[k + (k2 - 1)]!.l.length = ly at c0 HQ
                generalize decide (es[k + k2]!.l = es[k + (k2 - 1)]!.l) = r at hd HQ
                subst hd
                go_wp2_with fail
                refine start_ (n := 12) (S := fun w' => w'.cell? ⟨g, k + k2, none⟩ = some (.slice Ax lx cx) ∧ w'.cell? ⟨g, k + (k2 - 1), none⟩ = some (.slice Ay ly cy)) (ds := []) #[false, false, false, false, false, false, false, false, false, false, false, false] (by kernel_rfl) rfl rfl ⟨c1, c0⟩ (fun hHeld => ?_); refine with_tabW compactF.tab11 compactF.bits11 (fun HT_ HW_ => ?_)
                refine pure_ (i := 0) (N := some 38) (v := ?_) (a' := ?_) #[true, false, false, false, false, false, false, false, false, false, false, false] rfl rfl (any_of HT_.out (by kernel_rfl)) (fun _ _ _ h => h) (Or.inl ⟨by rfl, ?_⟩) ?_ ?_
                rotate_left
                · intro w'
                  go_simp
                  with_reducible rfl
                rotate_left
                · simp only [Act.put, List.setIfInBounds_toArray, List.set_cons_zero, List.set_cons_succ, i64_w, i32_w]
                  rfl
                refine pure_ (i := 1) (N := some 39) (v := ?_) (a' := ?_) #[true, true, false, false, false, false, false, false, false, false, false, false] rfl rfl (any_of HT_.out (by kernel_rfl)) (fun _ _ _ h => h) (Or.inl ⟨by rfl, ?_⟩) ?_ ?_
                rotate_left
                · intro w'
                  go_simp
                  with_reducible rfl
                rotate_left
                · simp only [Act.put, List.setIfInBounds_toArray, List.set_cons_zero, List.set_cons_succ, i64_w, i32_w]
                  rfl
                refine pure_ (i := 2) (N := some 40) (v := ?_) (a' := ?_) #[true, true, true, false, false, false, false, false, false, false, false, false] rfl rfl (any_of HT_.out (by kernel_rfl)) (fun _ _ _ h => h) (Or.inl ⟨by rfl, ?_⟩) ?_ ?_
                rotate_left
                · intro w'
                  go_simp
                  with_reducible rfl
                rotate_left
                · simp only [Act.put, List.setIfInBounds_toArray, List.set_cons_zero, List.set_cons_succ, i64_w, i32_w]
                  rfl
                refine pure_ (i := 5) (N := some 43) (v := ?_) (a' := ?_) #[true, true, true, false, false, true, false, false, false, false, false, false] rfl rfl (any_of HT_.out (by kernel_rfl)) (fun _ _ _ h => h) (Or.inl ⟨by rfl, ?_⟩) ?_ ?_
                rotate_left
                · intro w'
                  go_simp
                  with_reducible rfl
                rotate_left
                · simp only [Act.put, List.setIfInBounds_toArray, List.set_cons_zero, List.set_cons_succ, i64_w, i32_w]
                  rfl
                refine pure_ (i := 6) (N := some 44) (v := ?_) (a' := ?_) #[true, true, true, false, false, true, true, false, false, false, false, false] rfl rfl (any_of HT_.out (by kernel_rfl)) (fun _ _ _ h => h) (Or.inl ⟨by rfl, ?_⟩) ?_ ?_
                rotate_left
                · intro w'
                  go_simp
                  with_reducible rfl
                rotate_left
                · simp only [Act.put, List.setIfInBounds_toArray, List.set_cons_zero, List.set_cons_succ, i64_w, i32_w]
                  rfl
                refine pure_ (i := 7) (N := some 45) (v := ?_) (a' := ?_) #[true, true, true, false, false, true, true, true, false, false, false, false] rfl rfl (any_of HT_.out (by kernel_rfl)) (fun _ _ _ h => h) (Or.inl ⟨by rfl, ?_⟩) ?_ ?_
                rotate_left
                · intro w'
                  go_simp
                  with_reducible rfl
                rotate_left
                · simp only [Act.put, List.setIfInBounds_toArray, List.set_cons_zero, List.set_cons_succ, i64_w, i32_w]
                  rfl
                refine pure_ (i := 3) (N := some 41) (v := ?_) (a' := ?_) #[true, true, true, true, false, true, true, true, false, false, false, false] rfl rfl (any_of HT_.out (by kernel_rfl)) (fun _ _ _ h => h) (Or.inl ⟨by rfl, ?_⟩) ?_ ?_
                rotate_left
                · intro w'
                  go_simp
                  with_reducible rfl
                rotate_left
                · simp only [Act.put, List.setIfInBounds_toArray, List.set_cons_zero, List.set_cons_succ, i64_w, i32_w]
                  rfl
                refine pure_ (i := 8) (N := some 46) (v := ?_) (a' := ?_) #[true, true, true, true, false, true, true, true, true, false, false, false] rfl rfl (any_of HT_.out (by kernel_rfl)) (fun _ _ _ h => h) (Or.inl ⟨by rfl, ?_⟩) ?_ ?_
                rotate_left
                · intro w'
                  go_simp
                  with_reducible rfl
                rotate_left
                · simp only [Act.put, List.setIfInBounds_toArray, List.set_cons_zero, List.set_cons_succ, i64_w, i32_w]
                  rfl
                refine take_ (i := 4) (N := some 42) (v := ?_) (a' := ?_) #[true, true, true, true, true, true, true, true, true, false, false, false] rfl rfl (take_ofW HT_.out HW_.out (by kernel_rfl)) (fun _ _ _ h => h) (Or.inl ⟨by rfl, ?_⟩) hHeld ?_ ?_
                rotate_left
                · rintro w' ⟨s0, s1⟩
                  go_simp
                  with_reducible rfl
                rotate_left
                · simp only [Act.put, List.setIfInBounds_toArray, List.set_cons_zero, List.set_cons_succ, i64_w, i32_w]
                  rfl
                refine take_ (i := 9) (N := some 47) (v := ?_) (a' := ?_) #[true, true, true, true, true, true, true, true, true, true, false, false] rfl rfl (take_ofW HT_.out HW_.out (by kernel_rfl)) (fun _ _ _ h => h) (Or.inl ⟨by rfl, ?_⟩) hHeld ?_ ?_
                rotate_left
                · rintro w' ⟨s0, s1⟩
                  go_simp
                  with_reducible rfl
                rotate_left
                · simp only [Act.put, List.setIfInBounds_toArray, List.set_cons_zero, List.set_cons_succ, i64_w, i32_w]
                  rfl
                refine one_ (i := 10) (N := some 48) #[true, true, true, true, true, true, true, true, true, true, true, false] rfl rfl (one_of HT_.out (by kernel_rfl)) (by decide) (fun K hK => ?_)
                refine call_ 59 #[.slice Ax lx cx, .slice Ay ly cy] (by rfl) rfl ?hrun ?_
                (case hrun => have he_ := enters_ Try.func59 (by kernel_rfl) rfl #[.slice Ax lx cx, .slice Ay ly cy] (wr.drew); unfold execOp; simp [resolve, Deferred.ofValue, invoke, Act.eval, he_])
                refine (HQ.out _ ?tb).mono ?_
                (case tb => exact TBK.out _)
                rintro e w' ⟨rfl, n, rfl⟩
                refine ⟨_, rfl, ?_⟩
                refine hK.out _ _ ⟨c1, c0⟩ (fun hHeld => ?_)
                clear hK K
                refine norm_ (a' := ?_) ?_ ?_
                rotate_left
                · show Act.put _ (some 48) _ = _
                  simp only [Act.put, List.setIfInBounds_toArray, List.set_cons_zero, List.set_cons_succ, i64_w, i32_w]
                  rfl
                refine pure_ (i := 11) (N := some 49) (v := ?_) (a' := ?_) #[true, true, true, true, true, true, true, true, true, true, true, true] rfl rfl (any_of HT_.out (by kernel_rfl)) (fun _ _ _ h => h) (Or.inl ⟨by rfl, ?_⟩) ?_ ?_
                rotate_left
                · intro w'
                  go_simp
                  with_reducible rfl
                rotate_left
                · simp only [Act.put, List.setIfInBounds_toArray, List.set_cons_zero, List.set_cons_succ, i64_w, i32_w]
                  rfl
                refine done_ (done_of HT_.out (by kernel_rfl)) ?_
                go_wp2
                go_roundg (es.length - (k + (k2 + 1)))
                case measure => omega
                case rel => exact ⟨kk + 1, k2 + 1, q2 + (1 + n), dk.setIfInBounds kk es[k + k2]!, by go_num, by go_num, by omega, by omega, Nat.le_refl _, by rw [W2.out, ← EX.out]; exact store_at (by omega) _, I2.out.keep hlt2 (keepR_pos hlt2 (by rw [show k + k2 - 1 = k + (k2 - 1) by omega]; exact hdup2.out))⟩
            · have hend : k + k2 = es.length := by omega
              have hcl : ∀ ty, (Builtin.clear_ #[34] ty #[.slice (some ⟨g, 0 + kk, none⟩) (es.length - kk) (cap - kk)]).run Try.prog wr = .ok (.tuple #[]) (wr.setCells g (0 + kk) (List.replicate (es.length - kk) (.slice none 0 0))) :=
                fun ty => Lib.run_clear_slice wr 34 22 ty (.slice none 0 0) Try.underlying34 (fun w => Try.zeroValue22 w) rfl rfl g (0 + kk) _ _ (by omega) (fun j hj => by rw [show 0 + kk + j = 0 + (kk + j) by omega, (hHk (kk + j) (by omega)).1]; rfl) (fun j hj => by rw [show 0 + kk + j = 0 + (kk + j) by omega]; exact (hHk (kk + j) (by omega)).2)
              rw [Nat.zero_add] at hcl
              have hc1 := HC.out
              clear hHk hI
              go_wp2
              go_ret
              have hI := I2.out
              rw [hend] at hI
              refine ⟨by rw [hI.len]; rfl, q2, Lib.lay dk kk (List.replicate (es.length - kk) default), ?_, ?_, ?_⟩
              · rw [lay_size]
                exact hds
              · intro j hj
                rw [hI.len] at hj
                have h5 := Lib.lay_get? (List.replicate (es.length - kk) (default : RowAt w base)) dk kk j (by simp; omega)
                rw [if_neg (by omega)] at h5
                rw [hI.low j hj, getElem!_def, getElem!_def, h5]
              · have h5 := Lib.putRow_setCells RowAt.v (Sort.ahead w q2) g 0 (List.replicate (es.length - kk) (default : RowAt w base)) dk kk (by simp; omega)
                rw [← h5, ← W2.out, List.map_replicate, Nat.zero_add]
                rfl
        · have hd0 := 0
          have hd : decide (es[k]!.l = es[k - 1]!.l) = false := decide_eq_false hdup
          have hdup' := Aside0.mk hdup
          clear hdup
          generalize es[k]!.l.length = lx at c1 HQ
          generalize es[k - 1]!.l.length = ly at c0 HQ
          generalize decide (es[k]!.l = es[k - 1]!.l) = r at hd HQ
          subst hd
          have hw1 : IntKind.i64.wrap ((k : Int) - 1) = ((k - 1 : Nat) : Int) := by rw [i64_w, wrap_of (by omega) (by omega)]; omega
          have hw2 : wrap64 ((k : Int) - 1) = ((k - 1 : Nat) : Int) := by rw [wrap_of (by omega) (by omega)]; omega
          have hw3 : decide (((k - 1 : Nat) : Int) < (es.length : Int)) = true := decide_eq_true (by omega)
          have hw4 : k - 1 < es.length := by omega
          go_wp2_with fail
          refine start_ (n := 11) (S := fun w' => w'.cell? ⟨g, k, none⟩ = some (.slice Ax lx cx) ∧ w'.cell? ⟨g, k - 1, none⟩ = some (.slice Ay ly cy)) (ds := []) #[false, false, false, false, false, false, false, false, false, false, false] (by kernel_rfl) rfl rfl ⟨c1, c0⟩ (fun hHeld => ?_); refine with_tabW compactF.tab6 compactF.bits6 (fun HT_ HW_ => ?_)
          refine pure_ (i := 0) (N := some 18) (v := ?_) (a' := ?_) #[true, false, false, false, false, false, false, false, false, false, false] rfl rfl (any_of HT_.out (by kernel_rfl)) (fun _ _ _ h => h) (Or.inl ⟨by rfl, ?_⟩) ?_ ?_
          rotate_left
          · intro w'
            go_simp
            with_reducible rfl
          rotate_left
          · simp only [Act.put, List.setIfInBounds_toArray, List.set_cons_zero, List.set_cons_succ, i64_w, i32_w]
            rfl
          refine pure_ (i := 1) (N := some 19) (v := ?_) (a' := ?_) #[true, true, false, false, false, false, false, false, false, false, false] rfl rfl (any_of HT_.out (by kernel_rfl)) (fun _ _ _ h => h) (Or.inl ⟨by rfl, ?_⟩) ?_ ?_
          rotate_left
          · intro w'
            go_simp
            with_reducible rfl
          rotate_left
          · simp only [Act.put, List.setIfInBounds_toArray, List.set_cons_zero, List.set_cons_succ, i64_w, i32_w]
            rfl
          refine pure_ (i := 2) (N := some 20) (v := ?_) (a' := ?_) #[true, true, true, false, false, false, false, false, false, false, false] rfl rfl (any_of HT_.out (by kernel_rfl)) (fun _ _ _ h => h) (Or.inl ⟨by rfl, ?_⟩) ?_ ?_
          rotate_left
          · intro w'
            go_simp
            with_reducible rfl
          rotate_left
          · simp only [Act.put, List.setIfInBounds_toArray, List.set_cons_zero, List.set_cons_succ, i64_w, i32_w]
            rfl
          refine pure_ (i := 5) (N := some 23) (v := ?_) (a' := ?_) #[true, true, true, false, false, true, false, false, false, false, false] rfl rfl (any_of HT_.out (by kernel_rfl)) (fun _ _ _ h => h) (Or.inl ⟨by rfl, ?_⟩) ?_ ?_
          rotate_left
          · intro w'
            go_simp
            with_reducible rfl
          rotate_left
          · simp only [Act.put, List.setIfInBounds_toArray, List.set_cons_zero, List.set_cons_succ, i64_w, i32_w]
            rfl
          refine pure_ (i := 6) (N := some 24) (v := ?_) (a' := ?_) #[true, true, true, false, false, true, true, false, false, false, false] rfl rfl (any_of HT_.out (by kernel_rfl)) (fun _ _ _ h => h) (Or.inl ⟨by rfl, ?_⟩) ?_ ?_
          rotate_left
          · intro w'
            go_simp
            with_reducible rfl
          rotate_left
          · simp only [Act.put, List.setIfInBounds_toArray, List.set_cons_zero, List.set_cons_succ, i64_w, i32_w]
            rfl
          refine pure_ (i := 7) (N := some 25) (v := ?_) (a' := ?_) #[true, true, true, false, false, true, true, true, false, false, false] rfl rfl (any_of HT_.out (by kernel_rfl)) (fun _ _ _ h => h) (Or.inl ⟨by rfl, ?_⟩) ?_ ?_
          rotate_left
          · intro w'
            go_simp
            with_reducible rfl
          rotate_left
          · simp only [Act.put, List.setIfInBounds_toArray, List.set_cons_zero, List.set_cons_succ, i64_w, i32_w]
            rfl
          refine pure_ (i := 3) (N := some 21) (v := ?_) (a' := ?_) #[true, true, true, true, false, true, true, true, false, false, false] rfl rfl (any_of HT_.out (by kernel_rfl)) (fun _ _ _ h => h) (Or.inl ⟨by rfl, ?_⟩) ?_ ?_
          rotate_left
          · intro w'
            go_simp
            with_reducible rfl
          rotate_left
          · simp only [Act.put, List.setIfInBounds_toArray, List.set_cons_zero, List.set_cons_succ, i64_w, i32_w]
            rfl
          refine pure_ (i := 8) (N := some 26) (v := ?_) (a' := ?_) #[true, true, true, true, false, true, true, true, true, false, false] rfl rfl (any_of HT_.out (by kernel_rfl)) (fun _ _ _ h => h) (Or.inl ⟨by rfl, ?_⟩) ?_ ?_
          rotate_left
          · intro w'
            go_simp
            with_reducible rfl
          rotate_left
          · simp only [Act.put, List.setIfInBounds_toArray, List.set_cons_zero, List.set_cons_succ, i64_w, i32_w]
            rfl
          refine take_ (i := 4) (N := some 22) (v := ?_) (a' := ?_) #[true, true, true, true, true, true, true, true, true, false, false] rfl rfl (take_ofW HT_.out HW_.out (by kernel_rfl)) (fun _ _ _ h => h) (Or.inl ⟨by rfl, ?_⟩) hHeld ?_ ?_
          rotate_left
          · rintro w' ⟨s0, s1⟩
            go_simp
            with_reducible rfl
          rotate_left
          · simp only [Act.put, List.setIfInBounds_toArray, List.set_cons_zero, List.set_cons_succ, i64_w, i32_w]
            rfl
          refine take_ (i := 9) (N := some 27) (v := ?_) (a' := ?_) #[true, true, true, true, true, true, true, true, true, true, false] rfl rfl (take_ofW HT_.out HW_.out (by kernel_rfl)) (fun _ _ _ h => h) (Or.inl ⟨by rfl, ?_⟩) hHeld ?_ ?_
          rotate_left
          · rintro w' ⟨s0, s1⟩
            go_simp
            with_reducible rfl
          rotate_left
          · simp only [Act.put, List.setIfInBounds_toArray, List.set_cons_zero, List.set_cons_succ, i64_w, i32_w]
            rfl
          refine one_ (i := 10) (N := some 28) #[true, true, true, true, true, true, true, true, true, true, true] rfl rfl (one_of HT_.out (by kernel_rfl)) (by decide) (fun K hK => ?_)
          refine call_ 59 #[.slice Ax lx cx, .slice Ay ly cy] (by rfl) rfl ?hrun ?_
          (case hrun => have he_ := enters_ Try.func59 (by kernel_rfl) rfl #[.slice Ax lx cx, .slice Ay ly cy] ((w.drewN q).drew); unfold execOp; simp [resolve, Deferred.ofValue, invoke, Act.eval, he_])
          refine (HQ.out _ ?tb).mono ?_
          (case tb => exact fun _ _ _ => rfl)
          rintro e w' ⟨rfl, n, rfl⟩
          refine ⟨_, rfl, ?_⟩
          refine hK.out _ _ ⟨c1, c0⟩ (fun hHeld => ?_)
          clear hK K
          refine norm_ (a' := ?_) ?_ ?_
          rotate_left
          · show Act.put _ (some 28) _ = _
            simp only [Act.put, List.setIfInBounds_toArray, List.set_cons_zero, List.set_cons_succ, i64_w, i32_w]
            rfl
          refine done_ (done_of HT_.out (by kernel_rfl)) ?_
          go_wp2
          go_roundg (es.length - (k + 1))
          case measure => omega
          case rel =>
            refine ⟨k + 1, q + 1 + n, by omega, by omega, Nat.le_refl _, by go_num, ?_, fun j hj => ?_⟩
            · rfl
            · by_cases e : j = k
              · subst e
                exact keepR_pos hlt hdup'.out
              · exact A.out j (by omega)
      · have : k = es.length := by omega
        subst this
        go_wp2
        go_ret
        obtain ⟨e1, e2⟩ := HS.out q hall
        exact ⟨by rw [e1]; rfl, e2⟩

theorem compactRows.calls (v : Value) (s : List (List Int)) (hS : Kd.S (Kd.slice 3 (Kd.int .i64)) 22 w base (fun _ => True) v s) (hl : s.length ≤ 1000000) (hw : base ≤ w.heap.size) :
    Calls Try.prog 91 #[v, .func (.func 59) #[] #[]] w fun e w' => ∃ v', e = .returned v' ∧ Kd.S (Kd.slice 3 (Kd.int .i64)) 22 w' base (fun _ => True) v' (Lib.compact s) ∧ Below base w w' := by
  rcases rows_open hS with ⟨rfl, rfl⟩ | ⟨g, cap, cur, es, rfl, hb, hh, h1, h2, h3, h4, rfl, hap⟩
  · go_enter Try.func91, Try.ntmps91
    go_wp2
    go_ret
    exact ⟨_, rfl, Kd.S_nil _ _ _ _ _, Below.refl _ _⟩
  · rw [List.length_map] at h1 h4 hl ⊢
    refine (compactRows_arr g cap cur es hb hh h1 h2 h3 h4 hl).mono ?_
    rintro e w' ⟨rfl, q, d, hd, hup, rfl⟩
    have hsub := upR_sub es es.length (Nat.le_refl _)
    rw [List.take_length] at hsub
    have hlen : (upR es es.length).length ≤ es.length := hsub.length_le
    have hcon := upR_content es es.length (Nat.le_refl _)
    have hcon2 : (upR es es.length).map RowAt.l = Lib.compact (es.map RowAt.l) := by
      rw [hcon]
      unfold Lib.compact
      rw [List.length_map]
    have hput := heap_put (n := q) (os := #[]) (enc := RowAt.v (w := w) (base := base)) d hh
    have hgr := grown_put (w := w) (n := q) (os := #[]) (g := g) (enc := RowAt.v (w := w) (base := base)) d
    have hty := put_typed (n := q) (os := #[]) (enc := RowAt.v (w := w) (base := base)) hh d
    rw [grow_empty] at hput hgr hty
    have hcs : es.length ≤ cur.size := by omega
    refine ⟨_, rfl, ?_, (Below.refl base w).grown hgr hw (fun k hk => by obtain rfl := Option.some.inj hk; exact hb)⟩
    rw [← hcon2]
    refine rows_shut (W := putRow RowAt.v (Sort.ahead w q) g 0 d) (es := upR es es.length) (cap := cap) hb hput (by omega) h2 (by simp [putCells, h3]) ?_ (hap.sublist hsub) hty
    have htake := take_put (enc := RowAt.v (w := w) (base := base)) cur d.toList (upR es es.length).length (by simp; omega) (by simp; omega)
    rw [Array.toArray_toList] at htake
    rw [htake]
    congr 1
    apply List.ext_getElem?
    intro j
    by_cases hj : j < (upR es es.length).length
    · rw [List.getElem?_take_of_lt hj, hup j hj, Array.getElem?_toList, Array.getElem?_eq_getElem (by omega), getElem!_pos d j (by omega)]
    · rw [List.getElem?_eq_none (by simp; omega), List.getElem?_eq_none (by omega)]
end Go.Proofs.Ytlbhedhbakhhlaa.Q

/- every: the normal forms of the rows that search tells, sorted, each once. -/
namespace Go.Proofs.Ytlbhedhbakhhlaa.Q
open Go.RowKit Go.Proofs.YtlbhedhbakhhlaaW.PrintWords Go.Proofs.YtlbhedhbakhhlaaW.PrintLast Go.Proofs.YtlbhedhbakhhlaaW.PrintMore
set_option linter.unusedVariables false

def echo_every.f (k : Nat) (l0 : List Int) : Option (List (List Int)) := (echo_begin.f (tellRow k) k l0 []).bind fun out => if out.length ≤ 1000000 then some (Lib.compact (sortBy leL out)) else none

theorem tellRow.mono (k : Nat) (l : List Int) (s : List (List Int)) : LeO (tellRow k l s) (tellRow (k + 1) l s) := LeO.bind (echo_normal.mono l k) (fun _ => LeO.refl _)
theorem echo_every.mono : ∀ a0 k, LeO (echo_every.f k a0) (echo_every.f (k + 1) a0) := fun a0 k =>
  LeO.bind (fun r h => echo_begin.mono _ a0 [] k r (echo_begin.monoT _ _ (tellRow.mono k) a0 [] k r h)) (fun _ => LeO.refl _)

theorem ct_arg {w W : World} {A : Option Addr} {l : List Int} (h : Kd.C (Kd.int .i64) w A l.length l) (hW : Kd.C (Kd.int .i64) W A l.length l) : CT w.heap.size W A l := by
  refine ⟨hW, fun ad hA hl => .inl ?_⟩
  obtain ⟨ad', hA', hc⟩ := Kd.at_int h 0 (by omega) (by omega)
  rw [hA] at hA'
  obtain rfl := Option.some.inj hA'
  have := World.block_lt_of_cell? w _ hc
  rwa [add_block] at this

set_option maxHeartbeats 8000000 in
set_option maxRecDepth 100000 in
theorem echo_every.calls (k : Nat) (A0 : Option Addr) (c0 : Nat) (l0 : List Int) (r : List (List Int)) (w : World) (hr0 : Kd.C (Kd.int .i64) w A0 l0.length l0) (hc0 : l0.length ≤ c0) (h : echo_every.f k l0 = some r) :
    Calls Try.prog 62 #[.slice A0 l0.length c0] w fun e w' => ∃ v0_ : Value, e = .returned v0_ ∧ Kd.S (Kd.slice 3 (Kd.int .i64)) 22 w' w.heap.size (fun _ => True) v0_ r ∧ Below w.heap.size w w' := by
  obtain ⟨out, hout, h⟩ := Option.bind_eq_some_iff.mp h
  by_cases hlen : out.length ≤ 1000000
  · rw [if_pos hlen] at h
    obtain rfl := Option.some.inj h
    rw [← sortBy_eq leL_trans leL_total leL_antisymm out]
    have HR := Aside0.mk hr0
    have HC := Aside0.mk hc0
    have HO := Aside0.mk hout
    have HL := Aside0.mk hlen
    clear hr0 hc0 hout hlen h
    have HA := Aside0.mk (below_alloc (Below.refl w.heap.size w) (Obj.cells #[.slice none 0 0] 34 (0, 0)))
    have HI := Aside0.mk (show EveryInv w.heap.size [] (w.alloc (Obj.cells #[.slice none 0 0] 34 (0, 0))) from ⟨.slice none 0 0, by rw [World.alloc]; exact Array.getElem?_push_size, Kd.S_nil _ _ _ _ _⟩)
    go_enter Try.func62, Try.ntmps62
    go_wp2_with (first
      | (go_at_call 88
         refine (echo_begin.calls (tellRow k) w.heap.size (.pointer (some ⟨w.heap.size, 0, none⟩)) (EveryInv w.heap.size) (fun s W W' hs hb => hs.stay hb) (fun s s' A c l W hI hB hr hc ht => every1.calls k w.heap.size s s' A c l W hI hB hr hc ht) k A0 c0 l0 [] out _ HI.out (by simp) (ct_arg HR.out (Kd.C_alloc HR.out _)) HC.out HO.out).mono ?_
         rintro e w2 ⟨rfl, ⟨v, hbox, hS⟩, hTB⟩
         obtain ⟨A1, c1, e1⟩ := Kd.S_slice hS
         subst e1
         have HX := Aside0.mk hbox
         have HS := Aside0.mk hS
         have HT := Aside0.mk (HA.out.trans hTB.below)
         clear hS hTB
         have hcell := box_cell hbox
         clear hbox)
      | (go_at_call 90
         refine (sortRows.calls _ out HS.out (by have := HL.out; omega) (Array.getElem?_eq_some_iff.1 HX.out).1).mono ?_
         rintro e w3 ⟨rfl, hS, hb⟩
         have HX3 := Aside0.mk ((hb.block _ (Nat.lt_succ_self _)).trans HX.out)
         have HS3 := Aside0.mk hS
         have HT3 := Aside0.mk (HT.out.trans (hb.mono (Nat.le_succ _)))
         clear hS hb hcell
         have hcell := box_cell HX3.out)
      | (go_at_call 91
         refine (compactRows.calls _ _ HS3.out (by rw [List.length_mergeSort]; exact HL.out) (Array.getElem?_eq_some_iff.1 HX3.out).1).mono ?_
         rintro e w4 ⟨v', rfl, hS, hb⟩
         have HS4 := Aside0.mk hS
         have HT4 := Aside0.mk (HT3.out.trans (hb.mono (Nat.le_succ _)))
         clear hS hb))
    go_ret
    exact ⟨_, rfl, Kd.S_lower HS4.out (Nat.le_succ _), HT4.out⟩
  · rw [if_neg hlen] at h
    cases h
end Go.Proofs.Ytlbhedhbakhhlaa.Q

namespace Go.Proofs.Ytlbhedhbakhhlaa.Q
open Go.RowKit Go.Proofs.YtlbhedhbakhhlaaW.PrintWords Go.Proofs.YtlbhedhbakhhlaaW.PrintLast Go.Proofs.YtlbhedhbakhhlaaW.PrintMore
attribute [local go_sem] max2_int min2_int max_two min_two max_three min_three max_four min_four   -- for this text's walks alone
set_option linter.unusedVariables false
set_option linter.unusedSimpArgs false

/-! ### echo_All: function 27 -/
def echo_All.f (k : Nat) (l0 : List Int) : Option ((List (List Int)) × Int) := (echo_claimed.f k l0).bind fun t101 => (if t101 = 0 then ((echo_every.f k l0).bind fun t102 => (some (t102, 0))) else (some (([] : List (List Int)), t101)))
theorem echo_All.mono : ∀ a0 k, LeO (echo_All.f k a0) (echo_All.f (k + 1) a0) := by
  intro a0 k
  unfold echo_All.f
  repeat' first
      | (with_reducible exact echo_claimed.mono _ _)
      | (with_reducible exact echo_every.mono _ _)
      | (with_reducible exact LeO.refl _)
      | (with_reducible exact LeO.none _)
      | (with_reducible refine LeO.ite ?_ ?_)
      | (with_reducible refine LeO.bind ?_ (fun _ => ?_))
      | exact echo_claimed.mono _ _
      | exact echo_every.mono _ _
      | exact LeO.none _
      | refine LeO.ite ?_ ?_
      | refine LeO.bind ?_ (fun _ => ?_)
set_option maxHeartbeats 8000000 in
set_option maxRecDepth 100000 in
theorem echo_All.calls (k : Nat) (A0 : Option Addr) (c0 : Nat) (l0 : List Int) (r1 : List (List Int)) (r2 : Int) (w : World) (hr0 : Kd.C (Kd.int .i64) w A0 l0.length l0) (hc0 : l0.length ≤ c0) (h : echo_All.f k l0 = some (r1, r2)) :
    Calls Try.prog 27 #[.slice A0 l0.length c0] w fun e w' => ∃ v0_ : Value, e = .returned (.tuple #[v0_, .int .i64 r2]) ∧ Kd.S (Kd.slice 3 (Kd.int .i64)) 22 w' w.heap.size (fun _ => True) v0_ r1 ∧ Below w.heap.size w w' := by
  have HR0 := Aside0.mk hr0
  have HC0 := Aside0.mk hc0
  clear hr0 hc0
  have HB := Aside0.mk (Below.refl w.heap.size w)
  have H : ((echo_claimed.f k l0).bind fun t101 => (if t101 = 0 then ((echo_every.f k l0).bind fun t102 => (some (t102, 0))) else (some (([] : List (List Int)), t101)))) = some (r1, r2) := h
  clear h
  replace H := Option.bind_eq_some_iff.mp H
  obtain ⟨t101, A20, H⟩ := H
  replace H : (if t101 = 0 then ((echo_every.f k l0).bind fun t102 => (some (t102, 0))) else (some (([] : List (List Int)), t101))) = some (r1, r2) := H
  have A2 := Aside0.mk A20
  clear A20
  by_cases c3 : t101 = 0
  · rw [if_pos c3] at H
    have c3b0 : (t101 == 0) = true := beq_iff_eq.mpr c3
    have c3b1 : (t101 != 0) = false := bne_eq_false_iff_eq.mpr c3
    clear c3
    replace H := Option.bind_eq_some_iff.mp H
    obtain ⟨t102, A40, H⟩ := H
    replace H : (some (t102, 0)) = some (r1, r2) := H
    have A4 := Aside0.mk A40
    clear A40
    simp only [Option.some.injEq, Prod.mk.injEq] at H
    obtain ⟨rfl, rfl⟩ := H
    go_enter Try.func27, Try.ntmps27
    go_wp2_with (first | ((with_reducible refine gate_callee (f := 58) rfl ?_); refine goesL_ (some 6) rfl rfl Try.func58 (by kernel_rfl) rfl #[.slice A0 l0.length c0] rfl (by (try simp only [List.map_toArray, List.map_cons, List.map_nil]); first | done | rfl | (simp only [List.length_drop, List.length_take]; rfl)) ?_; (with_reducible refine (echo_claimed.calls k _ _ l0 t101 _ ?side1 ?side2 A2.out).mono ?_); (case side1 => repeat (first | exact HR0.out | (with_reducible refine Kd.C_alloc ?_ _) | (with_reducible refine Kd.C_drewN ?_ _) | (with_reducible refine Kd.C_drew ?_))); (case side2 => exact HC0.out); rintro e w5 ⟨rfl, hb⟩; refine ⟨_, rfl, ?_⟩; have n0_ := Aside0.mk (below_step (by repeat (first | (with_reducible first | exact HB.out | apply below_alloc | apply pw_below_drewN | apply below_drew1) | exact HB.out)) hb); clear HB; have HB := n0_; clear n0_; (try clear hb); (try clear hb2); (try clear hk); (try clear hi)) | ((with_reducible refine gate_callee (f := 62) rfl ?_); refine goesL_ (some 11) rfl rfl Try.func62 (by kernel_rfl) rfl #[.slice A0 l0.length c0] rfl (by (try simp only [List.map_toArray, List.map_cons, List.map_nil]); first | done | rfl | (simp only [List.length_drop, List.length_take]; rfl)) ?_; (with_reducible refine (echo_every.calls k _ _ l0 t102 _ ?side1 ?side2 A4.out).mono ?_); (case side1 => repeat (first | exact (Kd.C_below HR0.out HB.out) | (with_reducible refine Kd.C_alloc ?_ _) | (with_reducible refine Kd.C_drewN ?_ _) | (with_reducible refine Kd.C_drew ?_))); (case side2 => exact HC0.out); rintro e w6 ⟨v103, rfl, ho0, hb⟩; refine ⟨_, rfl, ?_⟩; have n0_ := Aside0.mk (Kd.S_lower ho0 (below_size (by repeat (first | (with_reducible first | exact HB.out | apply below_alloc | apply pw_below_drewN | apply below_drew1) | exact HB.out)))); have n1_ := Aside0.mk (below_step (by repeat (first | (with_reducible first | exact HB.out | apply below_alloc | apply pw_below_drewN | apply below_drew1) | exact HB.out)) hb); clear HB; have HO104 := n0_; have HB := n1_; clear n0_ n1_; (try clear hb); (try clear hb2); (try clear hk); (try clear hi); (try clear ho0)))
    go_ret2
    exact ⟨_, by first | rfl | (simp [errW_none, errW_some] <;> rfl) | (simp [*, errW_none, errW_some] <;> rfl), by (with_reducible repeat (first | apply Kd.S_alloc | apply Kd.S_drewN | apply Kd.S_drew)); exact HO104.out, by repeat (first | (with_reducible first | exact HB.out | apply below_alloc | apply pw_below_drewN | apply below_drew1) | exact HB.out)⟩
  · rw [if_neg c3] at H
    have c3b0 : (t101 == 0) = false := beq_eq_false_iff_ne.mpr c3
    have c3b1 : (t101 != 0) = true := bne_iff_ne.mpr c3
    simp only [Option.some.injEq, Prod.mk.injEq] at H
    obtain ⟨rfl, rfl⟩ := H
    go_enter Try.func27, Try.ntmps27
    go_wp2_with (first | ((with_reducible refine gate_callee (f := 58) rfl ?_); refine goesL_ (some 6) rfl rfl Try.func58 (by kernel_rfl) rfl #[.slice A0 l0.length c0] rfl (by (try simp only [List.map_toArray, List.map_cons, List.map_nil]); first | done | rfl | (simp only [List.length_drop, List.length_take]; rfl)) ?_; (with_reducible refine (echo_claimed.calls k _ _ l0 t101 _ ?side1 ?side2 A2.out).mono ?_); (case side1 => repeat (first | exact HR0.out | (with_reducible refine Kd.C_alloc ?_ _) | (with_reducible refine Kd.C_drewN ?_ _) | (with_reducible refine Kd.C_drew ?_))); (case side2 => exact HC0.out); rintro e w7 ⟨rfl, hb⟩; refine ⟨_, rfl, ?_⟩; have n0_ := Aside0.mk (below_step (by repeat (first | (with_reducible first | exact HB.out | apply below_alloc | apply pw_below_drewN | apply below_drew1) | exact HB.out)) hb); clear HB; have HB := n0_; clear n0_; (try clear hb); (try clear hb2); (try clear hk); (try clear hi)))
    go_ret2
    exact ⟨_, by first | rfl | (simp [errW_none, errW_some] <;> rfl) | (simp [*, errW_none, errW_some] <;> rfl), by first | exact Kd.S_nil _ _ _ _ _ | exact Kd.N_nil _ _ _ _ _ | exact Kd.V_nil _ _ _ _ _ | exact Kd.Q_nil _ _ _ _ _ | exact Kd.R_nil _ _ _ _ _, by repeat (first | (with_reducible first | exact HB.out | apply below_alloc | apply pw_below_drewN | apply below_drew1) | exact HB.out)⟩

end Go.Proofs.Ytlbhedhbakhhlaa.Q

namespace Go.Proofs.Ytlbhedhbakhhlaa.Q
open Go.RowKit Go.Proofs.YtlbhedhbakhhlaaW.PrintWords Go.Proofs.YtlbhedhbakhhlaaW.PrintLast Go.Proofs.YtlbhedhbakhhlaaW.PrintMore
attribute [local go_sem] max2_int min2_int max_two min_two max_three min_three max_four min_four   -- for this text's walks alone
set_option linter.unusedVariables false
set_option linter.unusedSimpArgs false

/-! ### diaphoneref05_SameRows: function 48 -/
def diaphoneref05_SameRows.l0 : Nat → List (List Int) → List (List Int) → Int → Option (Bool)
  | 0, _, _, _ => none
  | k + 1, x0, x1, x5 => if x5 < (x0.length : Int) then (if 0 ≤ x5 then (if x5 < (x1.length : Int) then ((diaphoneref05_SameInts.f k (rd_L1 x0 x5) (rd_L1 x1 x5)).bind fun t103 => (if t103 = true then (diaphoneref05_SameRows.l0 k x0 x1 (wrap64 (x5 + 1))) else (some false))) else (none)) else (none)) else (some true)
def diaphoneref05_SameRows.f (k : Nat) (l0 : List (List Int)) (l1 : List (List Int)) : Option (Bool) := if (l0.length : Int) = (l1.length : Int) then (diaphoneref05_SameRows.l0 k l0 l1 0) else (some false)
theorem diaphoneref05_SameRows.mono_l : ∀ k, (∀ y0 y1 y2, LeO (diaphoneref05_SameRows.l0 k y0 y1 y2) (diaphoneref05_SameRows.l0 (k + 1) y0 y1 y2))
  | 0 => fun _ _ _ r h => by simp [diaphoneref05_SameRows.l0] at h
  | k + 1 => by
    have ih0 := diaphoneref05_SameRows.mono_l k
    · intro y0 y1 y2
      unfold diaphoneref05_SameRows.l0
      repeat' first
      | (with_reducible exact ih0 _ _ _)
      | (with_reducible exact diaphoneref05_SameInts.mono _ _ _)
      | (with_reducible exact LeO.refl _)
      | (with_reducible exact LeO.none _)
      | (with_reducible refine LeO.ite ?_ ?_)
      | (with_reducible refine LeO.bind ?_ (fun _ => ?_))
      | exact ih0 _ _ _
      | exact diaphoneref05_SameInts.mono _ _ _
      | exact LeO.none _
      | refine LeO.ite ?_ ?_
      | refine LeO.bind ?_ (fun _ => ?_)
theorem diaphoneref05_SameRows.mono : ∀ a0 a1 k, LeO (diaphoneref05_SameRows.f k a0 a1) (diaphoneref05_SameRows.f (k + 1) a0 a1) := by
  intro a0 a1 k
  have ih0 := diaphoneref05_SameRows.mono_l k
  unfold diaphoneref05_SameRows.f
  repeat' first
      | (with_reducible exact ih0 _ _ _)
      | (with_reducible exact diaphoneref05_SameInts.mono _ _ _)
      | (with_reducible exact LeO.refl _)
      | (with_reducible exact LeO.none _)
      | (with_reducible refine LeO.ite ?_ ?_)
      | (with_reducible refine LeO.bind ?_ (fun _ => ?_))
      | exact ih0 _ _ _
      | exact diaphoneref05_SameInts.mono _ _ _
      | exact LeO.none _
      | refine LeO.ite ?_ ?_
      | refine LeO.bind ?_ (fun _ => ?_)
set_option maxHeartbeats 8000000 in
set_option maxRecDepth 100000 in
theorem diaphoneref05_SameRows.calls (k : Nat) (A0 : Option Addr) (c0 : Nat) (l0 : List (List Int)) (A1 : Option Addr) (c1 : Nat) (l1 : List (List Int)) (r : Bool) (w : World) (hr0 : Kd.C (Kd.slice 3 (Kd.int .i64)) w A0 l0.length l0) (hc0 : l0.length ≤ c0) (hr1 : Kd.C (Kd.slice 3 (Kd.int .i64)) w A1 l1.length l1) (hc1 : l1.length ≤ c1) (h : diaphoneref05_SameRows.f k l0 l1 = some r) :
    Calls Try.prog 48 #[.slice A0 l0.length c0, .slice A1 l1.length c1] w fun e w' => e = .returned (.bool r) ∧ Drawn0 w w' := by
  have HR0 := Aside0.mk hr0
  have HC0 := Aside0.mk hc0
  clear hr0 hc0
  have HR1 := Aside0.mk hr1
  have HC1 := Aside0.mk hc1
  clear hr1 hc1
  have H : (if (l0.length : Int) = (l1.length : Int) then (diaphoneref05_SameRows.l0 k l0 l1 0) else (some false)) = some r := h
  clear h
  by_cases c3 : (l0.length : Int) = (l1.length : Int)
  · rw [if_pos c3] at H
    have c3b0 : ((l0.length : Int) == (l1.length : Int)) = true := beq_iff_eq.mpr c3
    have c3b1 : ((l0.length : Int) != (l1.length : Int)) = false := bne_eq_false_iff_eq.mpr c3
    have c3b2 : (l0.length == l1.length) = true := by first | simpa using c3 | (simp at c3 ⊢; omega)
    clear c3
    have H' := Aside0.mk H
    clear H
    go_enter Try.func48, Try.ntmps48
    go_wp2
    repeat (go_quiet (fail); try go_wp2)
    go_loopg [5] k (fun kq v5 w' => ∃ (x5_1 : Int), v5 = .int .i64 x5_1 ∧ Aside0 (diaphoneref05_SameRows.l0 kq l0 l1 x5_1 = some r) ∧ Aside0 (kq ≤ k) ∧ Drawn0 w w')
    case atStart => exact ⟨(0), (by first | rfl | (simp; done) | (simp [*]; done)), H', ⟨Nat.le_refl _⟩, by repeat (first | exact Drawn0.refl _ | apply Drawn0.step)⟩
    case round =>
      clear H'
      try clear c1
      try clear p2
      try clear c3
      try clear c3b0
      try clear c3b1
      try clear c3b2
      obtain ⟨x5_1, rfl, HA, HK1, ⟨m1, rfl⟩⟩ := hrel
      cases gk with
      | zero => exact absurd HA.out (by simp [diaphoneref05_SameRows.l0])
      | succ k1 =>
        have H := HA.out
        clear HA
        simp only [diaphoneref05_SameRows.l0] at H
        by_cases c4 : x5_1 < (l0.length : Int)
        · rw [if_pos c4] at H
          have c4b0 : decide (x5_1 < (l0.length : Int)) = true := decide_eq_true c4
          clear c4
          by_cases c5 : 0 ≤ x5_1
          · rw [if_pos c5] at H
            have c5b0 : decide (0 ≤ x5_1) = true := decide_eq_true c5
            clear c5
            by_cases c6 : x5_1 < (l1.length : Int)
            · rw [if_pos c6] at H
              have c6b0 : decide (x5_1 < (l1.length : Int)) = true := decide_eq_true c6
              clear c6
              replace H := Option.bind_eq_some_iff.mp H
              obtain ⟨t103, A70, H⟩ := H
              replace H : (if t103 = true then (diaphoneref05_SameRows.l0 k1 l0 l1 (wrap64 (x5_1 + 1))) else (some false)) = some r := H
              have A7 := Aside0.mk A70
              clear A70
              by_cases c8 : t103 = true
              · subst c8
                have H1 : (diaphoneref05_SameRows.l0 k1 l0 l1 (wrap64 (x5_1 + 1))) = some r := by rw [if_pos rfl] at H; exact H
                clear H
                have H := H1
                clear H1
                have H' := Aside0.mk H
                clear H
                have p101 : 0 ≤ (x5_1 : Int) := of_decide_eq_true (by first | (with_reducible assumption) | assumption)
                have q101 : x5_1 < (l0.length : Int) := of_decide_eq_true (by first | (with_reducible assumption) | assumption)
                obtain ⟨ad101, A101_0, c101_0, e101, hx101_0, hl101_0, hi101_0⟩ := at_L1 HR0.out x5_1 p101 q101
                cases e101
                have HR101_0 := Aside0.mk hi101_0
                have HC101_0 := Aside0.mk hl101_0
                clear hi101_0 hl101_0
                replace p101 := eq_true p101
                replace q101 := eq_true q101
                have p102 : 0 ≤ (x5_1 : Int) := of_decide_eq_true (by first | (with_reducible assumption) | assumption)
                have q102 : x5_1 < (l1.length : Int) := of_decide_eq_true (by first | (with_reducible assumption) | assumption)
                obtain ⟨ad102, A102_0, c102_0, e102, hx102_0, hl102_0, hi102_0⟩ := at_L1 HR1.out x5_1 p102 q102
                cases e102
                have HR102_0 := Aside0.mk hi102_0
                have HC102_0 := Aside0.mk hl102_0
                clear hi102_0 hl102_0
                replace p102 := eq_true p102
                replace q102 := eq_true q102
                go_wp2_with (first | (go_at_call 23; (with_reducible refine (diaphoneref05_SameInts.calls k1 _ _ (rd_L1 l0 x5_1) _ _ (rd_L1 l1 x5_1) true _ ?side1 ?side2 ?side3 ?side4 A7.out).mono ?_); (case side1 => repeat (first | exact HR101_0.out | (with_reducible refine Kd.C_alloc ?_ _) | (with_reducible refine Kd.C_drewN ?_ _) | (with_reducible refine Kd.C_drew ?_))); (case side2 => exact HC101_0.out); (case side3 => repeat (first | exact HR102_0.out | (with_reducible refine Kd.C_alloc ?_ _) | (with_reducible refine Kd.C_drewN ?_ _) | (with_reducible refine Kd.C_drew ?_))); (case side4 => exact HC102_0.out); rintro e w' ⟨rfl, ⟨nd, rfl⟩⟩; (try first | exact ⟨rfl, _, World.drewN_drewN _ _ _⟩ | exact ⟨rfl, _, Eq.trans (World.drewN_drewN _ _ _) (congrArg (World.drewN _) (Nat.add_assoc _ _ _))⟩)))
                repeat (go_quiet (first | (go_at_call 23; (with_reducible refine (diaphoneref05_SameInts.calls k1 _ _ (rd_L1 l0 x5_1) _ _ (rd_L1 l1 x5_1) true _ ?side1 ?side2 ?side3 ?side4 A7.out).mono ?_); (case side1 => repeat (first | exact HR101_0.out | (with_reducible refine Kd.C_alloc ?_ _) | (with_reducible refine Kd.C_drewN ?_ _) | (with_reducible refine Kd.C_drew ?_))); (case side2 => exact HC101_0.out); (case side3 => repeat (first | exact HR102_0.out | (with_reducible refine Kd.C_alloc ?_ _) | (with_reducible refine Kd.C_drewN ?_ _) | (with_reducible refine Kd.C_drew ?_))); (case side4 => exact HC102_0.out); rintro e w' ⟨rfl, ⟨nd, rfl⟩⟩; (try first | exact ⟨rfl, _, World.drewN_drewN _ _ _⟩ | exact ⟨rfl, _, Eq.trans (World.drewN_drewN _ _ _) (congrArg (World.drewN _) (Nat.add_assoc _ _ _))⟩))); try go_wp2_with (first | (go_at_call 23; (with_reducible refine (diaphoneref05_SameInts.calls k1 _ _ (rd_L1 l0 x5_1) _ _ (rd_L1 l1 x5_1) true _ ?side1 ?side2 ?side3 ?side4 A7.out).mono ?_); (case side1 => repeat (first | exact HR101_0.out | (with_reducible refine Kd.C_alloc ?_ _) | (with_reducible refine Kd.C_drewN ?_ _) | (with_reducible refine Kd.C_drew ?_))); (case side2 => exact HC101_0.out); (case side3 => repeat (first | exact HR102_0.out | (with_reducible refine Kd.C_alloc ?_ _) | (with_reducible refine Kd.C_drewN ?_ _) | (with_reducible refine Kd.C_drew ?_))); (case side4 => exact HC102_0.out); rintro e w' ⟨rfl, ⟨nd, rfl⟩⟩; (try first | exact ⟨rfl, _, World.drewN_drewN _ _ _⟩ | exact ⟨rfl, _, Eq.trans (World.drewN_drewN _ _ _) (congrArg (World.drewN _) (Nat.add_assoc _ _ _))⟩))))
                go_roundg k1
                case measure => have := HK1.out; omega
                case rel => exact ⟨(wrap64 (x5_1 + 1)), (by first | rfl | (simp; done) | (simp [*]; done)), H', ⟨by have := HK1.out; omega⟩, by repeat (first | exact Drawn0.refl _ | apply Drawn0.step)⟩
              · replace c8 := Bool.eq_false_iff.mpr c8
                subst c8
                have H1 : (some false) = some r := by rw [if_neg (show ¬ (false = true) by decide)] at H; exact H
                clear H
                have H := H1
                clear H1
                obtain rfl := Option.some.inj H
                have p101 : 0 ≤ (x5_1 : Int) := of_decide_eq_true (by first | (with_reducible assumption) | assumption)
                have q101 : x5_1 < (l0.length : Int) := of_decide_eq_true (by first | (with_reducible assumption) | assumption)
                obtain ⟨ad101, A101_0, c101_0, e101, hx101_0, hl101_0, hi101_0⟩ := at_L1 HR0.out x5_1 p101 q101
                cases e101
                have HR101_0 := Aside0.mk hi101_0
                have HC101_0 := Aside0.mk hl101_0
                clear hi101_0 hl101_0
                replace p101 := eq_true p101
                replace q101 := eq_true q101
                have p102 : 0 ≤ (x5_1 : Int) := of_decide_eq_true (by first | (with_reducible assumption) | assumption)
                have q102 : x5_1 < (l1.length : Int) := of_decide_eq_true (by first | (with_reducible assumption) | assumption)
                obtain ⟨ad102, A102_0, c102_0, e102, hx102_0, hl102_0, hi102_0⟩ := at_L1 HR1.out x5_1 p102 q102
                cases e102
                have HR102_0 := Aside0.mk hi102_0
                have HC102_0 := Aside0.mk hl102_0
                clear hi102_0 hl102_0
                replace p102 := eq_true p102
                replace q102 := eq_true q102
                go_wp2_with (first | (go_at_call 23; (with_reducible refine (diaphoneref05_SameInts.calls k1 _ _ (rd_L1 l0 x5_1) _ _ (rd_L1 l1 x5_1) false _ ?side1 ?side2 ?side3 ?side4 A7.out).mono ?_); (case side1 => repeat (first | exact HR101_0.out | (with_reducible refine Kd.C_alloc ?_ _) | (with_reducible refine Kd.C_drewN ?_ _) | (with_reducible refine Kd.C_drew ?_))); (case side2 => exact HC101_0.out); (case side3 => repeat (first | exact HR102_0.out | (with_reducible refine Kd.C_alloc ?_ _) | (with_reducible refine Kd.C_drewN ?_ _) | (with_reducible refine Kd.C_drew ?_))); (case side4 => exact HC102_0.out); rintro e w' ⟨rfl, ⟨nd, rfl⟩⟩; (try first | exact ⟨rfl, _, World.drewN_drewN _ _ _⟩ | exact ⟨rfl, _, Eq.trans (World.drewN_drewN _ _ _) (congrArg (World.drewN _) (Nat.add_assoc _ _ _))⟩)))
                repeat (go_quiet (first | (go_at_call 23; (with_reducible refine (diaphoneref05_SameInts.calls k1 _ _ (rd_L1 l0 x5_1) _ _ (rd_L1 l1 x5_1) false _ ?side1 ?side2 ?side3 ?side4 A7.out).mono ?_); (case side1 => repeat (first | exact HR101_0.out | (with_reducible refine Kd.C_alloc ?_ _) | (with_reducible refine Kd.C_drewN ?_ _) | (with_reducible refine Kd.C_drew ?_))); (case side2 => exact HC101_0.out); (case side3 => repeat (first | exact HR102_0.out | (with_reducible refine Kd.C_alloc ?_ _) | (with_reducible refine Kd.C_drewN ?_ _) | (with_reducible refine Kd.C_drew ?_))); (case side4 => exact HC102_0.out); rintro e w' ⟨rfl, ⟨nd, rfl⟩⟩; (try first | exact ⟨rfl, _, World.drewN_drewN _ _ _⟩ | exact ⟨rfl, _, Eq.trans (World.drewN_drewN _ _ _) (congrArg (World.drewN _) (Nat.add_assoc _ _ _))⟩))); try go_wp2_with (first | (go_at_call 23; (with_reducible refine (diaphoneref05_SameInts.calls k1 _ _ (rd_L1 l0 x5_1) _ _ (rd_L1 l1 x5_1) false _ ?side1 ?side2 ?side3 ?side4 A7.out).mono ?_); (case side1 => repeat (first | exact HR101_0.out | (with_reducible refine Kd.C_alloc ?_ _) | (with_reducible refine Kd.C_drewN ?_ _) | (with_reducible refine Kd.C_drew ?_))); (case side2 => exact HC101_0.out); (case side3 => repeat (first | exact HR102_0.out | (with_reducible refine Kd.C_alloc ?_ _) | (with_reducible refine Kd.C_drewN ?_ _) | (with_reducible refine Kd.C_drew ?_))); (case side4 => exact HC102_0.out); rintro e w' ⟨rfl, ⟨nd, rfl⟩⟩; (try first | exact ⟨rfl, _, World.drewN_drewN _ _ _⟩ | exact ⟨rfl, _, Eq.trans (World.drewN_drewN _ _ _) (congrArg (World.drewN _) (Nat.add_assoc _ _ _))⟩))))
                go_ret
                exact ⟨by first | rfl | (simp; done) | (simp [*]; done), by repeat (first | exact Drawn0.refl _ | apply Drawn0.step)⟩
            · rw [if_neg c6] at H
              exact absurd H (by simp)
          · rw [if_neg c5] at H
            exact absurd H (by simp)
        · rw [if_neg c4] at H
          have c4b0 : decide (x5_1 < (l0.length : Int)) = false := decide_eq_false c4
          clear c4
          obtain rfl := Option.some.inj H
          go_wp2
          repeat (go_quiet (fail); try go_wp2)
          go_ret
          exact ⟨by first | rfl | (simp; done) | (simp [*]; done), by repeat (first | exact Drawn0.refl _ | apply Drawn0.step)⟩
  · rw [if_neg c3] at H
    have c3b0 : ((l0.length : Int) == (l1.length : Int)) = false := beq_eq_false_iff_ne.mpr c3
    have c3b1 : ((l0.length : Int) != (l1.length : Int)) = true := bne_iff_ne.mpr c3
    have c3b2 : (l0.length == l1.length) = false := by first | simpa using c3 | (simp at c3 ⊢; omega)
    obtain rfl := Option.some.inj H
    go_enter Try.func48, Try.ntmps48
    go_wp2
    repeat (go_quiet (fail); try go_wp2)
    go_ret
    exact ⟨by first | rfl | (simp; done) | (simp [*]; done), by repeat (first | exact Drawn0.refl _ | apply Drawn0.step)⟩

end Go.Proofs.Ytlbhedhbakhhlaa.Q

namespace Go.Proofs.Ytlbhedhbakhhlaa.Q
open Go.RowKit Go.Proofs.YtlbhedhbakhhlaaW.PrintWords Go.Proofs.YtlbhedhbakhhlaaW.PrintLast Go.Proofs.YtlbhedhbakhhlaaW.PrintMore
attribute [local go_sem] max2_int min2_int max_two min_two max_three min_three max_four min_four   -- for this text's walks alone
set_option linter.unusedVariables false
set_option linter.unusedSimpArgs false

/-! ### echo_Validate: function 21 -/
def echo_Validate.l0 : Nat → List Int → List Int → Int → Int → Option (Int)
  | 0, _, _, _, _ => none
  | k + 1, x0, x9, x10, x11 => if x11 < x10 then (if 0 ≤ x11 then (if x11 < (x9.length : Int) then ((echo_within.f (rd x9 x11) (-60) 60).bind fun t103 => (if t103 = true then (if x11 > 0 then (if 0 ≤ (wrap64 (x11 - 1)) then (if (wrap64 (x11 - 1)) < (x0.length : Int) then (if (rd x9 x11) ≤ (rd x0 (wrap64 (x11 - 1))) then (some 1) else (echo_Validate.l0 k x0 x9 x10 (wrap64 (x11 + 1)))) else (none)) else (none)) else (echo_Validate.l0 k x0 x9 x10 (wrap64 (x11 + 1)))) else (some 1))) else (none)) else (none)) else (if 0 ≤ (wrap64 ((x0.length : Int) - 1)) then (if (wrap64 ((x0.length : Int) - 1)) < (x0.length : Int) then (if 0 < (x0.length : Int) then (if (wrap64 ((rd x0 (wrap64 ((x0.length : Int) - 1))) - (rd x0 0))) > 60 then (some 1) else (some 0)) else (none)) else (none)) else (none))
def echo_Validate.f (k : Nat) (l0 : List Int) : Option (Int) := (echo_within.f (l0.length : Int) 1 6).bind fun t101 => (if t101 = true then (echo_Validate.l0 k l0 l0 (l0.length : Int) 0) else (some 3))
theorem echo_Validate.mono_l : ∀ k, (∀ y0 y1 y2 y3, LeO (echo_Validate.l0 k y0 y1 y2 y3) (echo_Validate.l0 (k + 1) y0 y1 y2 y3))
  | 0 => fun _ _ _ _ r h => by simp [echo_Validate.l0] at h
  | k + 1 => by
    have ih0 := echo_Validate.mono_l k
    · intro y0 y1 y2 y3
      unfold echo_Validate.l0
      repeat' first
      | (with_reducible exact ih0 _ _ _ _)
      | (with_reducible exact LeO.refl _)
      | (with_reducible exact LeO.none _)
      | (with_reducible refine LeO.ite ?_ ?_)
      | (with_reducible refine LeO.bind ?_ (fun _ => ?_))
      | exact ih0 _ _ _ _
      | exact LeO.none _
      | refine LeO.ite ?_ ?_
      | refine LeO.bind ?_ (fun _ => ?_)
theorem echo_Validate.mono : ∀ a0 k, LeO (echo_Validate.f k a0) (echo_Validate.f (k + 1) a0) := by
  intro a0 k
  have ih0 := echo_Validate.mono_l k
  unfold echo_Validate.f
  repeat' first
      | (with_reducible exact ih0 _ _ _ _)
      | (with_reducible exact LeO.refl _)
      | (with_reducible exact LeO.none _)
      | (with_reducible refine LeO.ite ?_ ?_)
      | (with_reducible refine LeO.bind ?_ (fun _ => ?_))
      | exact ih0 _ _ _ _
      | exact LeO.none _
      | refine LeO.ite ?_ ?_
      | refine LeO.bind ?_ (fun _ => ?_)
set_option maxHeartbeats 8000000 in
set_option maxRecDepth 100000 in
theorem echo_Validate.calls (k : Nat) (A0 : Option Addr) (c0 : Nat) (l0 : List Int) (r : Int) (w : World) (hr0 : Kd.C (Kd.int .i64) w A0 l0.length l0) (hc0 : l0.length ≤ c0) (h : echo_Validate.f k l0 = some r) :
    Calls Try.prog 21 #[.slice A0 l0.length c0] w fun e w' => e = .returned (.int .i64 r) ∧ Drawn0 w w' := by
  have HR0 := Aside0.mk hr0
  have HC0 := Aside0.mk hc0
  clear hr0 hc0
  have H : ((echo_within.f (l0.length : Int) 1 6).bind fun t101 => (if t101 = true then (echo_Validate.l0 k l0 l0 (l0.length : Int) 0) else (some 3))) = some r := h
  clear h
  replace H := Option.bind_eq_some_iff.mp H
  obtain ⟨t101, A20, H⟩ := H
  replace H : (if t101 = true then (echo_Validate.l0 k l0 l0 (l0.length : Int) 0) else (some 3)) = some r := H
  have A2 := Aside0.mk A20
  clear A20
  by_cases c3 : t101 = true
  · subst c3
    have H1 : (echo_Validate.l0 k l0 l0 (l0.length : Int) 0) = some r := by rw [if_pos rfl] at H; exact H
    clear H
    have H := H1
    clear H1
    have H' := Aside0.mk H
    clear H
    go_enter Try.func21, Try.ntmps21
    go_wp2_with (first | (go_at_call 56; (with_reducible refine (echo_within.calls (l0.length : Int) 1 6 true _ A2.out).mono ?_); rintro e w' ⟨rfl, ⟨nd, rfl⟩⟩; (try first | exact ⟨rfl, _, World.drewN_drewN _ _ _⟩ | exact ⟨rfl, _, Eq.trans (World.drewN_drewN _ _ _) (congrArg (World.drewN _) (Nat.add_assoc _ _ _))⟩)))
    repeat (go_quiet (first | (go_at_call 56; (with_reducible refine (echo_within.calls (l0.length : Int) 1 6 true _ A2.out).mono ?_); rintro e w' ⟨rfl, ⟨nd, rfl⟩⟩; (try first | exact ⟨rfl, _, World.drewN_drewN _ _ _⟩ | exact ⟨rfl, _, Eq.trans (World.drewN_drewN _ _ _) (congrArg (World.drewN _) (Nat.add_assoc _ _ _))⟩))); try go_wp2_with (first | (go_at_call 56; (with_reducible refine (echo_within.calls (l0.length : Int) 1 6 true _ A2.out).mono ?_); rintro e w' ⟨rfl, ⟨nd, rfl⟩⟩; (try first | exact ⟨rfl, _, World.drewN_drewN _ _ _⟩ | exact ⟨rfl, _, Eq.trans (World.drewN_drewN _ _ _) (congrArg (World.drewN _) (Nat.add_assoc _ _ _))⟩))))
    go_loopg [11] k (fun kq v11 w' => ∃ (x11_1 : Int), v11 = .int .i64 x11_1 ∧ Aside0 (echo_Validate.l0 kq l0 l0 (l0.length : Int) x11_1 = some r) ∧ Aside0 (kq ≤ k) ∧ Drawn0 w w')
    case atStart => exact ⟨(0), (by first | rfl | (simp; done) | (simp [*]; done)), H', ⟨Nat.le_refl _⟩, by repeat (first | exact Drawn0.refl _ | apply Drawn0.step)⟩
    case round =>
      clear H'
      try clear c2
      try clear p2
      try clear c3
      obtain ⟨x11_1, rfl, HA, HK1, ⟨m1, rfl⟩⟩ := hrel
      cases gk with
      | zero => exact absurd HA.out (by simp [echo_Validate.l0])
      | succ k1 =>
        have H := HA.out
        clear HA
        simp only [echo_Validate.l0] at H
        by_cases c4 : x11_1 < (l0.length : Int)
        · rw [if_pos c4] at H
          have c4b0 : decide (x11_1 < (l0.length : Int)) = true := decide_eq_true c4
          clear c4
          by_cases c5 : 0 ≤ x11_1
          · rw [if_pos c5] at H
            have c5b0 : decide (0 ≤ x11_1) = true := decide_eq_true c5
            clear c5
            by_cases c6 : x11_1 < (l0.length : Int)
            · rw [if_pos c6] at H
              have c6b0 : decide (x11_1 < (l0.length : Int)) = true := decide_eq_true c6
              clear c6
              replace H := Option.bind_eq_some_iff.mp H
              obtain ⟨t103, A70, H⟩ := H
              replace H : (if t103 = true then (if x11_1 > 0 then (if 0 ≤ (wrap64 (x11_1 - 1)) then (if (wrap64 (x11_1 - 1)) < (l0.length : Int) then (if (rd l0 x11_1) ≤ (rd l0 (wrap64 (x11_1 - 1))) then (some 1) else (echo_Validate.l0 k1 l0 l0 (l0.length : Int) (wrap64 (x11_1 + 1)))) else (none)) else (none)) else (echo_Validate.l0 k1 l0 l0 (l0.length : Int) (wrap64 (x11_1 + 1)))) else (some 1)) = some r := H
              have A7 := Aside0.mk A70
              clear A70
              by_cases c8 : t103 = true
              · subst c8
                have H1 : (if x11_1 > 0 then (if 0 ≤ (wrap64 (x11_1 - 1)) then (if (wrap64 (x11_1 - 1)) < (l0.length : Int) then (if (rd l0 x11_1) ≤ (rd l0 (wrap64 (x11_1 - 1))) then (some 1) else (echo_Validate.l0 k1 l0 l0 (l0.length : Int) (wrap64 (x11_1 + 1)))) else (none)) else (none)) else (echo_Validate.l0 k1 l0 l0 (l0.length : Int) (wrap64 (x11_1 + 1)))) = some r := by rw [if_pos rfl] at H; exact H
                clear H
                have H := H1
                clear H1
                by_cases c9 : x11_1 > 0
                · rw [if_pos c9] at H
                  have c9b0 : decide (0 < x11_1) = true := decide_eq_true c9
                  clear c9
                  obtain ⟨ji10, hji10⟩ : ∃ j_ : Int, (wrap64 (x11_1 - 1)) = j_ := ⟨_, rfl⟩
                  replace H : (if 0 ≤ (ji10) then (if (ji10) < (l0.length : Int) then (if (rd l0 x11_1) ≤ (rd l0 (ji10)) then (some 1) else (echo_Validate.l0 k1 l0 l0 (l0.length : Int) (wrap64 (x11_1 + 1)))) else (none)) else (none)) = some r := by first | (rw [hji10] at H; exact H) | (simp only [hji10] at H ⊢; exact H)
                  (try rw [hji10] at A7)
                  have hji10w : (IntKind.i64.wrap (x11_1 - 1)) = ji10 := (i64_w _).trans hji10
                  by_cases c11 : 0 ≤ (ji10)
                  · rw [if_pos c11] at H
                    have c11b0 : decide (0 ≤ (ji10)) = true := decide_eq_true c11
                    clear c11
                    by_cases c12 : (ji10) < (l0.length : Int)
                    · rw [if_pos c12] at H
                      have c12b0 : decide ((ji10) < (l0.length : Int)) = true := decide_eq_true c12
                      clear c12
                      by_cases c13 : (rd l0 x11_1) ≤ (rd l0 (ji10))
                      · rw [if_pos c13] at H
                        have c13b0 : decide ((rd l0 x11_1) ≤ (rd l0 (ji10))) = true := decide_eq_true c13
                        clear c13
                        obtain rfl := Option.some.inj H
                        have p102 : 0 ≤ (x11_1 : Int) := of_decide_eq_true (by first | (with_reducible assumption) | assumption)
                        have q102 : x11_1 < (l0.length : Int) := of_decide_eq_true (by first | (with_reducible assumption) | assumption)
                        obtain ⟨ad102, e102, hx102_0⟩ := Kd.at_int HR0.out x11_1 p102 q102
                        cases e102
                        replace p102 := eq_true p102
                        replace q102 := eq_true q102
                        go_wp2_with (first | (go_at_call 56; (with_reducible refine (echo_within.calls (rd l0 x11_1) (-60) 60 true _ A7.out).mono ?_); rintro e w' ⟨rfl, ⟨nd, rfl⟩⟩; (try first | exact ⟨rfl, _, World.drewN_drewN _ _ _⟩ | exact ⟨rfl, _, Eq.trans (World.drewN_drewN _ _ _) (congrArg (World.drewN _) (Nat.add_assoc _ _ _))⟩); have p104 : 0 ≤ ((ji10) : Int) := of_decide_eq_true (by first | (with_reducible assumption) | assumption); have q104 : (ji10) < (l0.length : Int) := of_decide_eq_true (by first | (with_reducible assumption) | assumption); obtain ⟨ad104, e104, hx104_0⟩ := Kd.at_int HR0.out (ji10) p104 q104; obtain rfl : ad102 = ad104 := (by injection e104); replace p104 := eq_true p104; replace q104 := eq_true q104))
                        repeat (go_quiet (first | (go_at_call 56; (with_reducible refine (echo_within.calls (rd l0 x11_1) (-60) 60 true _ A7.out).mono ?_); rintro e w' ⟨rfl, ⟨nd, rfl⟩⟩; (try first | exact ⟨rfl, _, World.drewN_drewN _ _ _⟩ | exact ⟨rfl, _, Eq.trans (World.drewN_drewN _ _ _) (congrArg (World.drewN _) (Nat.add_assoc _ _ _))⟩); have p104 : 0 ≤ ((ji10) : Int) := of_decide_eq_true (by first | (with_reducible assumption) | assumption); have q104 : (ji10) < (l0.length : Int) := of_decide_eq_true (by first | (with_reducible assumption) | assumption); obtain ⟨ad104, e104, hx104_0⟩ := Kd.at_int HR0.out (ji10) p104 q104; obtain rfl : ad102 = ad104 := (by injection e104); replace p104 := eq_true p104; replace q104 := eq_true q104)); try go_wp2_with (first | (go_at_call 56; (with_reducible refine (echo_within.calls (rd l0 x11_1) (-60) 60 true _ A7.out).mono ?_); rintro e w' ⟨rfl, ⟨nd, rfl⟩⟩; (try first | exact ⟨rfl, _, World.drewN_drewN _ _ _⟩ | exact ⟨rfl, _, Eq.trans (World.drewN_drewN _ _ _) (congrArg (World.drewN _) (Nat.add_assoc _ _ _))⟩); have p104 : 0 ≤ ((ji10) : Int) := of_decide_eq_true (by first | (with_reducible assumption) | assumption); have q104 : (ji10) < (l0.length : Int) := of_decide_eq_true (by first | (with_reducible assumption) | assumption); obtain ⟨ad104, e104, hx104_0⟩ := Kd.at_int HR0.out (ji10) p104 q104; obtain rfl : ad102 = ad104 := (by injection e104); replace p104 := eq_true p104; replace q104 := eq_true q104)))
                        go_ret
                        exact ⟨by first | rfl | (simp; done) | (simp only [← hji10] <;> (first | rfl | simp)) | (simp [*]; done), by repeat (first | exact Drawn0.refl _ | apply Drawn0.step)⟩
                      · rw [if_neg c13] at H
                        have c13b0 : decide ((rd l0 x11_1) ≤ (rd l0 (ji10))) = false := decide_eq_false c13
                        clear c13
                        have H' := Aside0.mk H
                        clear H
                        have p102 : 0 ≤ (x11_1 : Int) := of_decide_eq_true (by first | (with_reducible assumption) | assumption)
                        have q102 : x11_1 < (l0.length : Int) := of_decide_eq_true (by first | (with_reducible assumption) | assumption)
                        obtain ⟨ad102, e102, hx102_0⟩ := Kd.at_int HR0.out x11_1 p102 q102
                        cases e102
                        replace p102 := eq_true p102
                        replace q102 := eq_true q102
                        go_wp2_with (first | (go_at_call 56; (with_reducible refine (echo_within.calls (rd l0 x11_1) (-60) 60 true _ A7.out).mono ?_); rintro e w' ⟨rfl, ⟨nd, rfl⟩⟩; (try first | exact ⟨rfl, _, World.drewN_drewN _ _ _⟩ | exact ⟨rfl, _, Eq.trans (World.drewN_drewN _ _ _) (congrArg (World.drewN _) (Nat.add_assoc _ _ _))⟩); have p104 : 0 ≤ ((ji10) : Int) := of_decide_eq_true (by first | (with_reducible assumption) | assumption); have q104 : (ji10) < (l0.length : Int) := of_decide_eq_true (by first | (with_reducible assumption) | assumption); obtain ⟨ad104, e104, hx104_0⟩ := Kd.at_int HR0.out (ji10) p104 q104; obtain rfl : ad102 = ad104 := (by injection e104); replace p104 := eq_true p104; replace q104 := eq_true q104))
                        repeat (go_quiet (first | (go_at_call 56; (with_reducible refine (echo_within.calls (rd l0 x11_1) (-60) 60 true _ A7.out).mono ?_); rintro e w' ⟨rfl, ⟨nd, rfl⟩⟩; (try first | exact ⟨rfl, _, World.drewN_drewN _ _ _⟩ | exact ⟨rfl, _, Eq.trans (World.drewN_drewN _ _ _) (congrArg (World.drewN _) (Nat.add_assoc _ _ _))⟩); have p104 : 0 ≤ ((ji10) : Int) := of_decide_eq_true (by first | (with_reducible assumption) | assumption); have q104 : (ji10) < (l0.length : Int) := of_decide_eq_true (by first | (with_reducible assumption) | assumption); obtain ⟨ad104, e104, hx104_0⟩ := Kd.at_int HR0.out (ji10) p104 q104; obtain rfl : ad102 = ad104 := (by injection e104); replace p104 := eq_true p104; replace q104 := eq_true q104)); try go_wp2_with (first | (go_at_call 56; (with_reducible refine (echo_within.calls (rd l0 x11_1) (-60) 60 true _ A7.out).mono ?_); rintro e w' ⟨rfl, ⟨nd, rfl⟩⟩; (try first | exact ⟨rfl, _, World.drewN_drewN _ _ _⟩ | exact ⟨rfl, _, Eq.trans (World.drewN_drewN _ _ _) (congrArg (World.drewN _) (Nat.add_assoc _ _ _))⟩); have p104 : 0 ≤ ((ji10) : Int) := of_decide_eq_true (by first | (with_reducible assumption) | assumption); have q104 : (ji10) < (l0.length : Int) := of_decide_eq_true (by first | (with_reducible assumption) | assumption); obtain ⟨ad104, e104, hx104_0⟩ := Kd.at_int HR0.out (ji10) p104 q104; obtain rfl : ad102 = ad104 := (by injection e104); replace p104 := eq_true p104; replace q104 := eq_true q104)))
                        go_roundg k1
                        case measure => have := HK1.out; omega
                        case rel => exact ⟨(wrap64 (x11_1 + 1)), (by first | rfl | (simp; done) | (simp [*]; done)), H', ⟨by have := HK1.out; omega⟩, by repeat (first | exact Drawn0.refl _ | apply Drawn0.step)⟩
                    · rw [if_neg c12] at H
                      exact absurd H (by simp)
                  · rw [if_neg c11] at H
                    exact absurd H (by simp)
                · rw [if_neg c9] at H
                  have c9b0 : decide (0 < x11_1) = false := decide_eq_false c9
                  clear c9
                  have H' := Aside0.mk H
                  clear H
                  have p102 : 0 ≤ (x11_1 : Int) := of_decide_eq_true (by first | (with_reducible assumption) | assumption)
                  have q102 : x11_1 < (l0.length : Int) := of_decide_eq_true (by first | (with_reducible assumption) | assumption)
                  obtain ⟨ad102, e102, hx102_0⟩ := Kd.at_int HR0.out x11_1 p102 q102
                  cases e102
                  replace p102 := eq_true p102
                  replace q102 := eq_true q102
                  go_wp2_with (first | (go_at_call 56; (with_reducible refine (echo_within.calls (rd l0 x11_1) (-60) 60 true _ A7.out).mono ?_); rintro e w' ⟨rfl, ⟨nd, rfl⟩⟩; (try first | exact ⟨rfl, _, World.drewN_drewN _ _ _⟩ | exact ⟨rfl, _, Eq.trans (World.drewN_drewN _ _ _) (congrArg (World.drewN _) (Nat.add_assoc _ _ _))⟩)))
                  repeat (go_quiet (first | (go_at_call 56; (with_reducible refine (echo_within.calls (rd l0 x11_1) (-60) 60 true _ A7.out).mono ?_); rintro e w' ⟨rfl, ⟨nd, rfl⟩⟩; (try first | exact ⟨rfl, _, World.drewN_drewN _ _ _⟩ | exact ⟨rfl, _, Eq.trans (World.drewN_drewN _ _ _) (congrArg (World.drewN _) (Nat.add_assoc _ _ _))⟩))); try go_wp2_with (first | (go_at_call 56; (with_reducible refine (echo_within.calls (rd l0 x11_1) (-60) 60 true _ A7.out).mono ?_); rintro e w' ⟨rfl, ⟨nd, rfl⟩⟩; (try first | exact ⟨rfl, _, World.drewN_drewN _ _ _⟩ | exact ⟨rfl, _, Eq.trans (World.drewN_drewN _ _ _) (congrArg (World.drewN _) (Nat.add_assoc _ _ _))⟩))))
                  go_roundg k1
                  case measure => have := HK1.out; omega
                  case rel => exact ⟨(wrap64 (x11_1 + 1)), (by first | rfl | (simp; done) | (simp [*]; done)), H', ⟨by have := HK1.out; omega⟩, by repeat (first | exact Drawn0.refl _ | apply Drawn0.step)⟩
              · replace c8 := Bool.eq_false_iff.mpr c8
                subst c8
                have H1 : (some 1) = some r := by rw [if_neg (show ¬ (false = true) by decide)] at H; exact H
                clear H
                have H := H1
                clear H1
                obtain rfl := Option.some.inj H
                have p102 : 0 ≤ (x11_1 : Int) := of_decide_eq_true (by first | (with_reducible assumption) | assumption)
                have q102 : x11_1 < (l0.length : Int) := of_decide_eq_true (by first | (with_reducible assumption) | assumption)
                obtain ⟨ad102, e102, hx102_0⟩ := Kd.at_int HR0.out x11_1 p102 q102
                cases e102
                replace p102 := eq_true p102
                replace q102 := eq_true q102
                go_wp2_with (first | (go_at_call 56; (with_reducible refine (echo_within.calls (rd l0 x11_1) (-60) 60 false _ A7.out).mono ?_); rintro e w' ⟨rfl, ⟨nd, rfl⟩⟩; (try first | exact ⟨rfl, _, World.drewN_drewN _ _ _⟩ | exact ⟨rfl, _, Eq.trans (World.drewN_drewN _ _ _) (congrArg (World.drewN _) (Nat.add_assoc _ _ _))⟩)))
                repeat (go_quiet (first | (go_at_call 56; (with_reducible refine (echo_within.calls (rd l0 x11_1) (-60) 60 false _ A7.out).mono ?_); rintro e w' ⟨rfl, ⟨nd, rfl⟩⟩; (try first | exact ⟨rfl, _, World.drewN_drewN _ _ _⟩ | exact ⟨rfl, _, Eq.trans (World.drewN_drewN _ _ _) (congrArg (World.drewN _) (Nat.add_assoc _ _ _))⟩))); try go_wp2_with (first | (go_at_call 56; (with_reducible refine (echo_within.calls (rd l0 x11_1) (-60) 60 false _ A7.out).mono ?_); rintro e w' ⟨rfl, ⟨nd, rfl⟩⟩; (try first | exact ⟨rfl, _, World.drewN_drewN _ _ _⟩ | exact ⟨rfl, _, Eq.trans (World.drewN_drewN _ _ _) (congrArg (World.drewN _) (Nat.add_assoc _ _ _))⟩))))
                go_ret
                exact ⟨by first | rfl | (simp; done) | (simp [*]; done), by repeat (first | exact Drawn0.refl _ | apply Drawn0.step)⟩
            · rw [if_neg c6] at H
              exact absurd H (by simp)
          · rw [if_neg c5] at H
            exact absurd H (by simp)
        · rw [if_neg c4] at H
          have c4b0 : decide (x11_1 < (l0.length : Int)) = false := decide_eq_false c4
          clear c4
          obtain ⟨ji14, hji14⟩ : ∃ j_ : Int, (wrap64 ((l0.length : Int) - 1)) = j_ := ⟨_, rfl⟩
          replace H : (if 0 ≤ (ji14) then (if (ji14) < (l0.length : Int) then (if 0 < (l0.length : Int) then (if (wrap64 ((rd l0 (ji14)) - (rd l0 0))) > 60 then (some 1) else (some 0)) else (none)) else (none)) else (none)) = some r := by first | (rw [hji14] at H; exact H) | (simp only [hji14] at H ⊢; exact H)
          have hji14w : (IntKind.i64.wrap ((l0.length : Int) - 1)) = ji14 := (i64_w _).trans hji14
          by_cases c15 : 0 ≤ (ji14)
          · rw [if_pos c15] at H
            have c15b0 : decide (0 ≤ (ji14)) = true := decide_eq_true c15
            clear c15
            by_cases c16 : (ji14) < (l0.length : Int)
            · rw [if_pos c16] at H
              have c16b0 : decide ((ji14) < (l0.length : Int)) = true := decide_eq_true c16
              clear c16
              by_cases c17 : 0 < (l0.length : Int)
              · rw [if_pos c17] at H
                have c17b0 : decide (0 < (l0.length : Int)) = true := decide_eq_true c17
                have c17b1 : decide (0 < l0.length) = true := decide_eq_true (by omega)
                clear c17
                by_cases c18 : (wrap64 ((rd l0 (ji14)) - (rd l0 0))) > 60
                · rw [if_pos c18] at H
                  have c18b0 : decide (60 < (wrap64 ((rd l0 (ji14)) - (rd l0 0)))) = true := decide_eq_true c18
                  clear c18
                  obtain rfl := Option.some.inj H
                  have p105 : 0 ≤ ((ji14) : Int) := of_decide_eq_true (by first | (with_reducible assumption) | assumption)
                  have q105 : (ji14) < (l0.length : Int) := of_decide_eq_true (by first | (with_reducible assumption) | assumption)
                  obtain ⟨ad105, e105, hx105_0⟩ := Kd.at_int HR0.out (ji14) p105 q105
                  cases e105
                  replace p105 := eq_true p105
                  replace q105 := eq_true q105
                  have p106 : 0 ≤ (0 : Int) := (by omega)
                  have q106 : 0 < (l0.length : Int) := of_decide_eq_true (by first | (with_reducible assumption) | assumption)
                  obtain ⟨ad106, e106, hx106_0⟩ := Kd.at_int HR0.out 0 p106 q106
                  obtain rfl : ad105 = ad106 := (by injection e106)
                  have qi106 : (0 < l0.length) = True := eq_true (by omega)
                  (try rw [show ((0 : Int)).toNat = 0 from rfl] at hx106_0)
                  (try rw [Addr.add_zero'] at hx106_0)
                  replace p106 := eq_true p106
                  replace q106 := eq_true q106
                  go_wp2
                  repeat (go_quiet (fail); try go_wp2)
                  go_ret
                  exact ⟨by first | rfl | (simp; done) | (simp only [← hji14] <;> (first | rfl | simp)) | (simp [*]; done), by repeat (first | exact Drawn0.refl _ | apply Drawn0.step)⟩
                · rw [if_neg c18] at H
                  have c18b0 : decide (60 < (wrap64 ((rd l0 (ji14)) - (rd l0 0)))) = false := decide_eq_false c18
                  clear c18
                  obtain rfl := Option.some.inj H
                  have p105 : 0 ≤ ((ji14) : Int) := of_decide_eq_true (by first | (with_reducible assumption) | assumption)
                  have q105 : (ji14) < (l0.length : Int) := of_decide_eq_true (by first | (with_reducible assumption) | assumption)
                  obtain ⟨ad105, e105, hx105_0⟩ := Kd.at_int HR0.out (ji14) p105 q105
                  cases e105
                  replace p105 := eq_true p105
                  replace q105 := eq_true q105
                  have p106 : 0 ≤ (0 : Int) := (by omega)
                  have q106 : 0 < (l0.length : Int) := of_decide_eq_true (by first | (with_reducible assumption) | assumption)
                  obtain ⟨ad106, e106, hx106_0⟩ := Kd.at_int HR0.out 0 p106 q106
                  obtain rfl : ad105 = ad106 := (by injection e106)
                  have qi106 : (0 < l0.length) = True := eq_true (by omega)
                  (try rw [show ((0 : Int)).toNat = 0 from rfl] at hx106_0)
                  (try rw [Addr.add_zero'] at hx106_0)
                  replace p106 := eq_true p106
                  replace q106 := eq_true q106
                  go_wp2
                  repeat (go_quiet (fail); try go_wp2)
                  go_ret
                  exact ⟨by first | rfl | (simp; done) | (simp only [← hji14] <;> (first | rfl | simp)) | (simp [*]; done), by repeat (first | exact Drawn0.refl _ | apply Drawn0.step)⟩
              · rw [if_neg c17] at H
                exact absurd H (by simp)
            · rw [if_neg c16] at H
              exact absurd H (by simp)
          · rw [if_neg c15] at H
            exact absurd H (by simp)
  · replace c3 := Bool.eq_false_iff.mpr c3
    subst c3
    have H1 : (some 3) = some r := by rw [if_neg (show ¬ (false = true) by decide)] at H; exact H
    clear H
    have H := H1
    clear H1
    obtain rfl := Option.some.inj H
    go_enter Try.func21, Try.ntmps21
    go_wp2_with (first | (go_at_call 56; (with_reducible refine (echo_within.calls (l0.length : Int) 1 6 false _ A2.out).mono ?_); rintro e w' ⟨rfl, ⟨nd, rfl⟩⟩; (try first | exact ⟨rfl, _, World.drewN_drewN _ _ _⟩ | exact ⟨rfl, _, Eq.trans (World.drewN_drewN _ _ _) (congrArg (World.drewN _) (Nat.add_assoc _ _ _))⟩)))
    repeat (go_quiet (first | (go_at_call 56; (with_reducible refine (echo_within.calls (l0.length : Int) 1 6 false _ A2.out).mono ?_); rintro e w' ⟨rfl, ⟨nd, rfl⟩⟩; (try first | exact ⟨rfl, _, World.drewN_drewN _ _ _⟩ | exact ⟨rfl, _, Eq.trans (World.drewN_drewN _ _ _) (congrArg (World.drewN _) (Nat.add_assoc _ _ _))⟩))); try go_wp2_with (first | (go_at_call 56; (with_reducible refine (echo_within.calls (l0.length : Int) 1 6 false _ A2.out).mono ?_); rintro e w' ⟨rfl, ⟨nd, rfl⟩⟩; (try first | exact ⟨rfl, _, World.drewN_drewN _ _ _⟩ | exact ⟨rfl, _, Eq.trans (World.drewN_drewN _ _ _) (congrArg (World.drewN _) (Nat.add_assoc _ _ _))⟩))))
    go_ret
    exact ⟨by first | rfl | (simp; done) | (simp [*]; done), by repeat (first | exact Drawn0.refl _ | apply Drawn0.step)⟩

end Go.Proofs.Ytlbhedhbakhhlaa.Q

namespace Go.Proofs.Ytlbhedhbakhhlaa.Q
open Go.RowKit Go.Proofs.YtlbhedhbakhhlaaW.PrintWords Go.Proofs.YtlbhedhbakhhlaaW.PrintLast Go.Proofs.YtlbhedhbakhhlaaW.PrintMore
attribute [local go_sem] max2_int min2_int max_two min_two max_three min_three max_four min_four   -- for this text's walks alone
set_option linter.unusedVariables false
set_option linter.unusedSimpArgs false

/-! ### echo_both: function 64 -/
def echo_both.f (k : Nat) (l0 : List Int) (l1 : List Int) : Option (Int) := (echo_Validate.f k l0).bind fun t101 => (if t101 = 0 then ((echo_Validate.f k l1).bind fun t102 => (some t102)) else (some t101))
theorem echo_both.mono : ∀ a0 a1 k, LeO (echo_both.f k a0 a1) (echo_both.f (k + 1) a0 a1) := by
  intro a0 a1 k
  unfold echo_both.f
  repeat' first
      | (with_reducible exact echo_Validate.mono _ _)
      | (with_reducible exact LeO.refl _)
      | (with_reducible exact LeO.none _)
      | (with_reducible refine LeO.ite ?_ ?_)
      | (with_reducible refine LeO.bind ?_ (fun _ => ?_))
      | exact echo_Validate.mono _ _
      | exact LeO.none _
      | refine LeO.ite ?_ ?_
      | refine LeO.bind ?_ (fun _ => ?_)
set_option maxHeartbeats 8000000 in
set_option maxRecDepth 100000 in
theorem echo_both.calls (k : Nat) (A0 : Option Addr) (c0 : Nat) (l0 : List Int) (A1 : Option Addr) (c1 : Nat) (l1 : List Int) (r : Int) (w : World) (hr0 : Kd.C (Kd.int .i64) w A0 l0.length l0) (hc0 : l0.length ≤ c0) (hr1 : Kd.C (Kd.int .i64) w A1 l1.length l1) (hc1 : l1.length ≤ c1) (h : echo_both.f k l0 l1 = some r) :
    Calls Try.prog 64 #[.slice A0 l0.length c0, .slice A1 l1.length c1] w fun e w' => e = .returned (.int .i64 r) ∧ Drawn0 w w' := by
  have HR0 := Aside0.mk hr0
  have HC0 := Aside0.mk hc0
  clear hr0 hc0
  have HR1 := Aside0.mk hr1
  have HC1 := Aside0.mk hc1
  clear hr1 hc1
  have H : ((echo_Validate.f k l0).bind fun t101 => (if t101 = 0 then ((echo_Validate.f k l1).bind fun t102 => (some t102)) else (some t101))) = some r := h
  clear h
  replace H := Option.bind_eq_some_iff.mp H
  obtain ⟨t101, A30, H⟩ := H
  replace H : (if t101 = 0 then ((echo_Validate.f k l1).bind fun t102 => (some t102)) else (some t101)) = some r := H
  have A3 := Aside0.mk A30
  clear A30
  by_cases c4 : t101 = 0
  · rw [if_pos c4] at H
    have c4b0 : (t101 == 0) = true := beq_iff_eq.mpr c4
    have c4b1 : (t101 != 0) = false := bne_eq_false_iff_eq.mpr c4
    clear c4
    replace H := Option.bind_eq_some_iff.mp H
    obtain ⟨t102, A50, H⟩ := H
    replace H : (some t102) = some r := H
    have A5 := Aside0.mk A50
    clear A50
    obtain rfl := Option.some.inj H
    go_enter Try.func64, Try.ntmps64
    go_wp2_with (first | ((with_reducible refine gate_callee (f := 21) rfl ?_); refine goesL_ (some 7) rfl rfl Try.func21 (by kernel_rfl) rfl #[.slice A0 l0.length c0] rfl (by (try simp only [List.map_toArray, List.map_cons, List.map_nil]); first | done | rfl | (simp only [List.length_drop, List.length_take]; rfl)) ?_; (with_reducible refine (echo_Validate.calls k _ _ l0 t101 _ ?side1 ?side2 A3.out).mono ?_); (case side1 => repeat (first | exact HR0.out | (with_reducible refine Kd.C_alloc ?_ _) | (with_reducible refine Kd.C_drewN ?_ _) | (with_reducible refine Kd.C_drew ?_))); (case side2 => exact HC0.out); rintro e w' ⟨rfl, ⟨nd, rfl⟩⟩; refine ⟨_, rfl, ?_⟩) | ((with_reducible refine gate_callee (f := 21) rfl ?_); refine goesL_ (some 12) rfl rfl Try.func21 (by kernel_rfl) rfl #[.slice A1 l1.length c1] rfl (by (try simp only [List.map_toArray, List.map_cons, List.map_nil]); first | done | rfl | (simp only [List.length_drop, List.length_take]; rfl)) ?_; (with_reducible refine (echo_Validate.calls k _ _ l1 t102 _ ?side1 ?side2 A5.out).mono ?_); (case side1 => repeat (first | exact HR1.out | (with_reducible refine Kd.C_alloc ?_ _) | (with_reducible refine Kd.C_drewN ?_ _) | (with_reducible refine Kd.C_drew ?_))); (case side2 => exact HC1.out); rintro e w' ⟨rfl, ⟨nd, rfl⟩⟩; refine ⟨_, rfl, ?_⟩))
    go_ret
    exact ⟨by first | rfl | (simp; done) | (simp [*]; done), by repeat (first | exact Drawn0.refl _ | apply Drawn0.step)⟩
  · rw [if_neg c4] at H
    have c4b0 : (t101 == 0) = false := beq_eq_false_iff_ne.mpr c4
    have c4b1 : (t101 != 0) = true := bne_iff_ne.mpr c4
    obtain rfl := Option.some.inj H
    go_enter Try.func64, Try.ntmps64
    go_wp2_with (first | ((with_reducible refine gate_callee (f := 21) rfl ?_); refine goesL_ (some 7) rfl rfl Try.func21 (by kernel_rfl) rfl #[.slice A0 l0.length c0] rfl (by (try simp only [List.map_toArray, List.map_cons, List.map_nil]); first | done | rfl | (simp only [List.length_drop, List.length_take]; rfl)) ?_; (with_reducible refine (echo_Validate.calls k _ _ l0 t101 _ ?side1 ?side2 A3.out).mono ?_); (case side1 => repeat (first | exact HR0.out | (with_reducible refine Kd.C_alloc ?_ _) | (with_reducible refine Kd.C_drewN ?_ _) | (with_reducible refine Kd.C_drew ?_))); (case side2 => exact HC0.out); rintro e w' ⟨rfl, ⟨nd, rfl⟩⟩; refine ⟨_, rfl, ?_⟩))
    go_ret
    exact ⟨by first | rfl | (simp; done) | (simp [*]; done), by repeat (first | exact Drawn0.refl _ | apply Drawn0.step)⟩

end Go.Proofs.Ytlbhedhbakhhlaa.Q

namespace Go.Proofs.Ytlbhedhbakhhlaa.Q
open Go.RowKit Go.Proofs.YtlbhedhbakhhlaaW.PrintWords Go.Proofs.YtlbhedhbakhhlaaW.PrintLast Go.Proofs.YtlbhedhbakhhlaaW.PrintMore
attribute [local go_sem] max2_int min2_int max_two min_two max_three min_three max_four min_four   -- for this text's walks alone
set_option linter.unusedVariables false
set_option linter.unusedSimpArgs false

/-! ### echo_checked: function 75 -/
def echo_checked.f (k : Nat) (l0 : List Int) : Option (List Int × Int) := (echo_Validate.f k l0).bind fun t101 => (if t101 = 0 then (some (l0, 0)) else (some (([] : List Int), t101)))
theorem echo_checked.mono : ∀ a0 k, LeO (echo_checked.f k a0) (echo_checked.f (k + 1) a0) := by
  intro a0 k
  unfold echo_checked.f
  repeat' first
      | (with_reducible exact echo_Validate.mono _ _)
      | (with_reducible exact LeO.refl _)
      | (with_reducible exact LeO.none _)
      | (with_reducible refine LeO.ite ?_ ?_)
      | (with_reducible refine LeO.bind ?_ (fun _ => ?_))
      | exact echo_Validate.mono _ _
      | exact LeO.none _
      | refine LeO.ite ?_ ?_
      | refine LeO.bind ?_ (fun _ => ?_)
set_option maxHeartbeats 8000000 in
set_option maxRecDepth 100000 in
theorem echo_checked.calls (k : Nat) (P0_ : Nat → Prop) (u9000_ : Value) (l0 : List Int) (r1 : List Int) (r2 : Int) (w0 w : World) (hB : Below w0.heap.size w0 w) (ho0 : Kd.R (Kd.int .i64) 3 w w0.heap.size P0_ u9000_ l0) (h : echo_checked.f k l0 = some (r1, r2)) :
    Calls Try.prog 75 #[u9000_] w fun e w' => ∃ v0_ : Value, e = .returned (.tuple #[v0_, .int .i64 r2]) ∧ Kd.R (Kd.int .i64) 3 w' w0.heap.size (fun k_ => (P0_ k_ ∨ w.heap.size ≤ k_)) v0_ r1 ∧ Below w0.heap.size w0 w' ∧ Kept w w' (fun k_ => P0_ k_) := by
  have HO0 := Aside0.mk (show Kd.R (Kd.int .i64) 3 w w0.heap.size (fun k_ => (P0_ k_ ∨ w.heap.size ≤ k_)) u9000_ l0 from Kd.R_mono ho0 (fun k_ hk => (.inl hk)))
  have HK := Aside0.mk (Kept.refl w (fun k_ => P0_ k_))
  have HW0 := Aside0.mk hB.size
  have HB := Aside0.mk hB
  clear hB
  have H : ((echo_Validate.f k l0).bind fun t101 => (if t101 = 0 then (some (l0, 0)) else (some (([] : List Int), t101)))) = some (r1, r2) := h
  clear h
  replace H := Option.bind_eq_some_iff.mp H
  obtain ⟨t101, A20, H⟩ := H
  replace H : (if t101 = 0 then (some (l0, 0)) else (some (([] : List Int), t101))) = some (r1, r2) := H
  have A2 := Aside0.mk A20
  clear A20
  by_cases c3 : t101 = 0
  · rw [if_pos c3] at H
    have c3b0 : (t101 == 0) = true := beq_iff_eq.mpr c3
    have c3b1 : (t101 != 0) = false := bne_eq_false_iff_eq.mpr c3
    clear c3
    simp only [Option.some.injEq, Prod.mk.injEq] at H
    obtain ⟨rfl, rfl⟩ := H
    obtain ⟨Ao4, co4, eo4⟩ := Kd.R_slice HO0.out
    subst eo4
    go_enter Try.func75, Try.ntmps75
    go_wp2_with (first | ((with_reducible refine gate_callee (f := 21) rfl ?_); refine goesL_ (some 6) rfl rfl Try.func21 (by kernel_rfl) rfl #[.slice Ao4 l0.length co4] rfl (by (try simp only [List.map_toArray, List.map_cons, List.map_nil]); first | done | rfl | (simp only [List.length_drop, List.length_take]; rfl)) ?_; (with_reducible refine (echo_Validate.calls k _ _ l0 t101 _ ?side1 ?side2 A2.out).mono ?_); (case side1 => repeat (first | exact (Kd.R_reads' HO0.out).2.2 | (with_reducible refine Kd.C_alloc ?_ _) | (with_reducible refine Kd.C_drewN ?_ _) | (with_reducible refine Kd.C_drew ?_))); (case side2 => exact (Kd.R_reads' HO0.out).2.1); rintro e w' ⟨rfl, ⟨nd, rfl⟩⟩; refine ⟨_, rfl, ?_⟩))
    go_ret2
    exact ⟨_, by first | rfl | (simp [errW_none, errW_some] <;> rfl) | (simp [*, errW_none, errW_some] <;> rfl), by (with_reducible repeat (first | apply Kd.R_alloc | apply Kd.R_drewN | apply Kd.R_drew)); exact HO0.out, by repeat (first | (with_reducible first | exact HB.out | apply below_alloc | apply pw_below_drewN | apply below_drew1) | exact HB.out), by repeat (first | (with_reducible first | exact HK.out | apply Kept.alloc | apply Kept.drewN | apply Kept.drew) | exact HK.out)⟩
  · rw [if_neg c3] at H
    have c3b0 : (t101 == 0) = false := beq_eq_false_iff_ne.mpr c3
    have c3b1 : (t101 != 0) = true := bne_iff_ne.mpr c3
    simp only [Option.some.injEq, Prod.mk.injEq] at H
    obtain ⟨rfl, rfl⟩ := H
    obtain ⟨Ao5, co5, eo5⟩ := Kd.R_slice HO0.out
    subst eo5
    go_enter Try.func75, Try.ntmps75
    go_wp2_with (first | ((with_reducible refine gate_callee (f := 21) rfl ?_); refine goesL_ (some 6) rfl rfl Try.func21 (by kernel_rfl) rfl #[.slice Ao5 l0.length co5] rfl (by (try simp only [List.map_toArray, List.map_cons, List.map_nil]); first | done | rfl | (simp only [List.length_drop, List.length_take]; rfl)) ?_; (with_reducible refine (echo_Validate.calls k _ _ l0 t101 _ ?side1 ?side2 A2.out).mono ?_); (case side1 => repeat (first | exact (Kd.R_reads' HO0.out).2.2 | (with_reducible refine Kd.C_alloc ?_ _) | (with_reducible refine Kd.C_drewN ?_ _) | (with_reducible refine Kd.C_drew ?_))); (case side2 => exact (Kd.R_reads' HO0.out).2.1); rintro e w' ⟨rfl, ⟨nd, rfl⟩⟩; refine ⟨_, rfl, ?_⟩))
    go_ret2
    exact ⟨_, by first | rfl | (simp [errW_none, errW_some] <;> rfl) | (simp [*, errW_none, errW_some] <;> rfl), by first | exact Kd.R_nil _ _ _ _ _ | exact Kd.N_nil _ _ _ _ _ | exact Kd.V_nil _ _ _ _ _ | exact Kd.Q_nil _ _ _ _ _ | exact Kd.S_nil _ _ _ _ _, by repeat (first | (with_reducible first | exact HB.out | apply below_alloc | apply pw_below_drewN | apply below_drew1) | exact HB.out), by repeat (first | (with_reducible first | exact HK.out | apply Kept.alloc | apply Kept.drewN | apply Kept.drew) | exact HK.out)⟩

end Go.Proofs.Ytlbhedhbakhhlaa.Q

/- slices.Compact of whole numbers, told as the printed functions are: runs of equal numbers become one. -/
namespace Go.Proofs.Ytlbhedhbakhhlaa.Q
open Go.RowKit Go.Sort Go.Proofs.YtlbhedhbakhhlaaW.PrintWords Go.Proofs.YtlbhedhbakhhlaaW.PrintLast Go.Proofs.YtlbhedhbakhhlaaW.PrintMore

theorem compact_length (l : List Int) : (Lib.compact l).length ≤ l.length := by
  unfold Lib.compact Lib.compactUpTo
  rw [List.length_map]
  refine Nat.le_trans (List.length_filter_le _ _) ?_
  simp
def slices_Compact_int_int.f (l0 : List Int) : Option (List Int) := some (Lib.compact l0)
theorem slices_Compact_int_int.calls (P0_ : Nat → Prop) (u9000_ : Value) (l0 : List Int) (r : List Int) (w0 w : World) (hB : Below w0.heap.size w0 w) (ho0 : Kd.R (Kd.int .i64) 3 w w0.heap.size P0_ u9000_ l0) (h : slices_Compact_int_int.f l0 = some r) :
    Calls Try.prog 83 #[u9000_] w fun e w' => ∃ v0_ : Value, e = .returned (v0_) ∧ Kd.R (Kd.int .i64) 3 w' w0.heap.size (fun k_ => (P0_ k_ ∨ w.heap.size ≤ k_)) v0_ r ∧ Below w0.heap.size w0 w' ∧ Kept w w' (fun k_ => P0_ k_) := by
  obtain rfl := Option.some.inj h
  rcases r_open ho0 with ⟨rfl, rfl⟩ | ⟨g, cap, cur, rfl, hb, hp, hh, h1, h2, h3, h4⟩
  · refine (Try.slices_Compact_int_empty none 0 w).mono fun e w' ⟨he, hw⟩ => ⟨_, he, ?_, by rw [hw]; exact hB, by rw [hw]; exact Kept.refl _ _⟩
    exact Kd.R_nil _ _ _ _ _
  · refine (Try.slices_Compact_int g 0 cap l0 w (holds_of_blockI hh h4) (by simp only [maxLen] at h2; omega) h1).mono ?_
    rintro e w' ⟨rfl, n, rfl⟩
    have hl := compact_length l0
    generalize hts : Lib.compact l0 ++ List.replicate (l0.length - (Lib.compact l0).length) 0 = ts
    have hlt : ts.length = l0.length := by rw [← hts]; simp; omega
    have htk : ts.take (Lib.compact l0).length = Lib.compact l0 := by rw [← hts]; simp
    have hg := grownBy_sortedI (w := w) (g := g) (n := n) (os := #[]) ts.toArray
    have ho := own_prefix (ownsRow_sortedI (w := w) (base := w0.heap.size) (n := n) (os := #[]) hlt hb hh h1 h2 h3) hl
    rw [grow_empty] at hg ho
    refine ⟨_, rfl, r_of_own (by rw [htk] at ho; exact ho) (fun k hk => ?_), hB.grown hg hB.size (fun k hk => by cases hk; exact hb), Kept.of_grown hg (Kept.refl _ _) (fun k hk => by cases hk; exact .inl hp)⟩
    obtain rfl : g = k := by simpa [Value.ownBlock] using hk
    exact .inl hp
end Go.Proofs.Ytlbhedhbakhhlaa.Q

/- slices.Sort of whole numbers, told as the printed functions are: the row holds the same numbers in ascending order. -/
namespace Go.Proofs.Ytlbhedhbakhhlaa.Q
open Go.RowKit Go.Sort Go.Proofs.YtlbhedhbakhhlaaW.PrintWords Go.Proofs.YtlbhedhbakhhlaaW.PrintLast Go.Proofs.YtlbhedhbakhhlaaW.PrintMore

def slices_Sort_int_int.f (l0 : List Int) : Option (List Int) := if l0.length < 17592186044416 then some (isortI l0) else none
theorem slices_Sort_int_int.calls (P0_ : Nat → Prop) (u9000_ : Value) (l0 : List Int) (r : List Int) (w0 w : World) (hB : Below w0.heap.size w0 w) (ho0 : Kd.R (Kd.int .i64) 3 w w0.heap.size P0_ u9000_ l0) (h : slices_Sort_int_int.f l0 = some r) :
    Calls Try.prog 71 #[u9000_] w fun e w' => e = .returned (.tuple #[]) ∧ Kd.R (Kd.int .i64) 3 w' w0.heap.size (fun k_ => (P0_ k_ ∨ w.heap.size ≤ k_)) u9000_ r ∧ Below w0.heap.size w0 w' ∧ Kept w w' (fun k_ => P0_ k_) := by
  unfold slices_Sort_int_int.f at h
  split at h
  · rename_i hs
    obtain rfl := Option.some.inj h
    rw [← isortI_eq]
    rcases r_open ho0 with ⟨rfl, rfl⟩ | ⟨g, cap, cur, rfl, hb, hp, hh, h1, h2, h3, h4⟩
    · refine (Try.slices_Sort_int_none none 0 w).mono fun e w' ⟨he, hw⟩ => ⟨he, ?_, by rw [hw]; exact hB, by rw [hw]; exact Kept.refl _ _⟩
      have hn : ([] : List Int).mergeSort (fun x y => decide (x ≤ y)) = [] := by simp
      rw [hn]
      exact Kd.R_nil _ _ _ _ _
    · refine (Try.slices_Sort_int g 0 cap l0 w (holds_of_blockI hh h4) (Array.getElem?_eq_some_iff.1 hh).1 (by omega)).mono ?_
      rintro e w' ⟨rfl, n, os, rfl⟩
      have hl : (l0.mergeSort fun x y => decide (x ≤ y)).length = l0.length := List.length_mergeSort _
      have hg := grownBy_sortedI (w := w) (g := g) (n := n) (os := os) (l0.mergeSort fun x y => decide (x ≤ y)).toArray
      refine ⟨rfl, r_of_own (by rw [hl]; exact ownsRow_sortedI hl hb hh h1 h2 h3) (fun k hk => ?_), hB.grown hg hB.size (fun k hk => by cases hk; exact hb), Kept.of_grown hg (Kept.refl _ _) (fun k hk => by cases hk; exact .inl hp)⟩
      obtain rfl : g = k := by simpa [Value.ownBlock] using hk
      exact .inl hp
  · cases h
end Go.Proofs.Ytlbhedhbakhhlaa.Q

namespace Go.Proofs.Ytlbhedhbakhhlaa.Q
open Go.RowKit Go.Proofs.YtlbhedhbakhhlaaW.PrintWords Go.Proofs.YtlbhedhbakhhlaaW.PrintLast Go.Proofs.YtlbhedhbakhhlaaW.PrintMore
attribute [local go_sem] max2_int min2_int max_two min_two max_three min_three max_four min_four   -- for this text's walks alone
set_option linter.unusedVariables false
set_option linter.unusedSimpArgs false

/-! ### echo_combined: function 81 -/
mutual
def echo_combined.l0 : Nat → List Int → Int → List Int → List Int → Int → Int → Option (List Int × Int)
  | 0, _, _, _, _, _, _ => none
  | k + 1, x1, x2, x9, x20, x21, x22 => if x22 < x21 then (if 0 ≤ x22 then (if x22 < (x20.length : Int) then (echo_combined.l1 k x1 x2 x9 (rd x20 x22) x20 x21 x22 x1 (x1.length : Int) 0) else (none)) else (none)) else ((slices_Sort_int_int.f x9).bind fun t107 => ((slices_Clone_int_int.f t107).bind fun t108 => ((slices_Compact_int_int.f t108).bind fun t111 => (if (t111.length : Int) < (x9.length : Int) then (some (([] : List Int), 5)) else ((echo_checked.f k t107).bind fun bt114 => (some (bt114.1, bt114.2)))))))
def echo_combined.l1 : Nat → List Int → Int → List Int → Int → List Int → Int → Int → List Int → Int → Int → Option (List Int × Int)
  | 0, _, _, _, _, _, _, _, _, _, _ => none
  | k + 1, x1, x2, x9, x11, x20, x21, x22, x26, x27, x28 => if x28 < x27 then (if 0 ≤ x28 then (if x28 < (x26.length : Int) then (if x9.length < 17592186044416 then (echo_combined.l1 k x1 x2 (x9 ++ [wrap64 (x11 + (wrap64 (x2 * (rd x26 x28))))]) x11 x20 x21 x22 x26 x27 (wrap64 (x28 + 1))) else (none)) else (none)) else (none)) else (echo_combined.l0 k x1 x2 x9 x20 x21 (wrap64 (x22 + 1)))
end
def echo_combined.f (k : Nat) (l0 : List Int) (l1 : List Int) (a2 : Int) : Option (List Int × Int) := (echo_both.f k l0 l1).bind fun t101 => (if t101 = 0 then (echo_combined.l0 k l1 a2 ([] : List Int) l0 (l0.length : Int) 0) else (some (([] : List Int), t101)))
theorem echo_combined.mono_l : ∀ k, (∀ y0 y1 y2 y3 y4 y5, LeO (echo_combined.l0 k y0 y1 y2 y3 y4 y5) (echo_combined.l0 (k + 1) y0 y1 y2 y3 y4 y5)) ∧ (∀ y0 y1 y2 y3 y4 y5 y6 y7 y8 y9, LeO (echo_combined.l1 k y0 y1 y2 y3 y4 y5 y6 y7 y8 y9) (echo_combined.l1 (k + 1) y0 y1 y2 y3 y4 y5 y6 y7 y8 y9))
  | 0 => ⟨fun _ _ _ _ _ _ r h => by simp [echo_combined.l0] at h, fun _ _ _ _ _ _ _ _ _ _ r h => by simp [echo_combined.l1] at h⟩
  | k + 1 => by
    obtain ⟨ih0, ih1⟩ := echo_combined.mono_l k
    refine ⟨?_, ?_⟩
    · intro y0 y1 y2 y3 y4 y5
      unfold echo_combined.l0
      repeat' first
      | (with_reducible exact ih0 _ _ _ _ _ _)
      | (with_reducible exact ih1 _ _ _ _ _ _ _ _ _ _)
      | (with_reducible exact echo_both.mono _ _ _)
      | (with_reducible exact echo_checked.mono _ _)
      | (with_reducible exact LeO.refl _)
      | (with_reducible exact LeO.none _)
      | (with_reducible refine LeO.ite ?_ ?_)
      | (with_reducible refine LeO.bind ?_ (fun _ => ?_))
      | exact ih0 _ _ _ _ _ _
      | exact ih1 _ _ _ _ _ _ _ _ _ _
      | exact echo_both.mono _ _ _
      | exact echo_checked.mono _ _
      | exact LeO.none _
      | refine LeO.ite ?_ ?_
      | refine LeO.bind ?_ (fun _ => ?_)
    · intro y0 y1 y2 y3 y4 y5 y6 y7 y8 y9
      unfold echo_combined.l1
      repeat' first
      | (with_reducible exact ih0 _ _ _ _ _ _)
      | (with_reducible exact ih1 _ _ _ _ _ _ _ _ _ _)
      | (with_reducible exact echo_both.mono _ _ _)
      | (with_reducible exact echo_checked.mono _ _)
      | (with_reducible exact LeO.refl _)
      | (with_reducible exact LeO.none _)
      | (with_reducible refine LeO.ite ?_ ?_)
      | (with_reducible refine LeO.bind ?_ (fun _ => ?_))
      | exact ih0 _ _ _ _ _ _
      | exact ih1 _ _ _ _ _ _ _ _ _ _
      | exact echo_both.mono _ _ _
      | exact echo_checked.mono _ _
      | exact LeO.none _
      | refine LeO.ite ?_ ?_
      | refine LeO.bind ?_ (fun _ => ?_)
theorem echo_combined.mono : ∀ a0 a1 a2 k, LeO (echo_combined.f k a0 a1 a2) (echo_combined.f (k + 1) a0 a1 a2) := by
  intro a0 a1 a2 k
  obtain ⟨ih0, ih1⟩ := echo_combined.mono_l k
  unfold echo_combined.f
  repeat' first
      | (with_reducible exact ih0 _ _ _ _ _ _)
      | (with_reducible exact ih1 _ _ _ _ _ _ _ _ _ _)
      | (with_reducible exact echo_both.mono _ _ _)
      | (with_reducible exact echo_checked.mono _ _)
      | (with_reducible exact LeO.refl _)
      | (with_reducible exact LeO.none _)
      | (with_reducible refine LeO.ite ?_ ?_)
      | (with_reducible refine LeO.bind ?_ (fun _ => ?_))
      | exact ih0 _ _ _ _ _ _
      | exact ih1 _ _ _ _ _ _ _ _ _ _
      | exact echo_both.mono _ _ _
      | exact echo_checked.mono _ _
      | exact LeO.none _
      | refine LeO.ite ?_ ?_
      | refine LeO.bind ?_ (fun _ => ?_)
set_option maxHeartbeats 8000000 in
set_option maxRecDepth 100000 in
theorem echo_combined.calls (k : Nat) (A0 : Option Addr) (c0 : Nat) (l0 : List Int) (A1 : Option Addr) (c1 : Nat) (l1 : List Int) (a2 : Int) (r1 : List Int) (r2 : Int) (w : World) (hr0 : Kd.C (Kd.int .i64) w A0 l0.length l0) (hc0 : l0.length ≤ c0) (hr1 : Kd.C (Kd.int .i64) w A1 l1.length l1) (hc1 : l1.length ≤ c1) (h : echo_combined.f k l0 l1 a2 = some (r1, r2)) :
    Calls Try.prog 81 #[.slice A0 l0.length c0, .slice A1 l1.length c1, .int .i64 a2] w fun e w' => ∃ v0_ : Value, e = .returned (.tuple #[v0_, .int .i64 r2]) ∧ Kd.R (Kd.int .i64) 3 w' w.heap.size (fun _ => True) v0_ r1 ∧ Below w.heap.size w w' := by
  have HR0 := Aside0.mk hr0
  have HC0 := Aside0.mk hc0
  clear hr0 hc0
  have HR1 := Aside0.mk hr1
  have HC1 := Aside0.mk hc1
  clear hr1 hc1
  have HB := Aside0.mk (Below.refl w.heap.size w)
  have H : ((echo_both.f k l0 l1).bind fun t101 => (if t101 = 0 then (echo_combined.l0 k l1 a2 ([] : List Int) l0 (l0.length : Int) 0) else (some (([] : List Int), t101)))) = some (r1, r2) := h
  clear h
  replace H := Option.bind_eq_some_iff.mp H
  obtain ⟨t101, A40, H⟩ := H
  replace H : (if t101 = 0 then (echo_combined.l0 k l1 a2 ([] : List Int) l0 (l0.length : Int) 0) else (some (([] : List Int), t101))) = some (r1, r2) := H
  have A4 := Aside0.mk A40
  clear A40
  by_cases c5 : t101 = 0
  · rw [if_pos c5] at H
    have c5b0 : (t101 == 0) = true := beq_iff_eq.mpr c5
    have c5b1 : (t101 != 0) = false := bne_eq_false_iff_eq.mpr c5
    clear c5
    have H' := Aside0.mk H
    clear H
    go_enter Try.func81, Try.ntmps81
    go_wp2_with (first | ((with_reducible refine gate_callee (f := 64) rfl ?_); refine goesL_ (some 16) rfl rfl Try.func64 (by kernel_rfl) rfl #[.slice A0 l0.length c0, .slice A1 l1.length c1] rfl (by (try simp only [List.map_toArray, List.map_cons, List.map_nil]); first | done | rfl | (simp only [List.length_drop, List.length_take]; rfl)) ?_; (with_reducible refine (echo_both.calls k _ _ l0 _ _ l1 t101 _ ?side1 ?side2 ?side3 ?side4 A4.out).mono ?_); (case side1 => repeat (first | exact HR0.out | (with_reducible refine Kd.C_alloc ?_ _) | (with_reducible refine Kd.C_drewN ?_ _) | (with_reducible refine Kd.C_drew ?_))); (case side2 => exact HC0.out); (case side3 => repeat (first | exact HR1.out | (with_reducible refine Kd.C_alloc ?_ _) | (with_reducible refine Kd.C_drewN ?_ _) | (with_reducible refine Kd.C_drew ?_))); (case side4 => exact HC1.out); rintro e w' ⟨rfl, ⟨nd, rfl⟩⟩; refine ⟨_, rfl, ?_⟩))
    go_loopg [9, 22] k (fun kq v9 v22 w' => ∃ (x9_1 : List Int) (x22_1 : Int), v22 = .int .i64 x22_1 ∧ Aside0 (echo_combined.l0 kq l1 a2 x9_1 l0 (l0.length : Int) x22_1 = some (r1, r2)) ∧ Aside0 (kq ≤ k) ∧ Aside0 (Kd.R (Kd.int .i64) 3 w' w.heap.size (fun _ => True) v9 x9_1) ∧ Aside0 (Below w.heap.size w w'))
    case atStart => exact ⟨(([] : List Int)), (0), (by first | rfl | (simp; done) | (simp [*]; done)), H', ⟨Nat.le_refl _⟩, ⟨by first | exact Kd.R_nil _ _ _ _ _ | exact Kd.N_nil _ _ _ _ _ | exact Kd.V_nil _ _ _ _ _ | exact Kd.Q_nil _ _ _ _ _ | exact Kd.S_nil _ _ _ _ _⟩, ⟨by repeat (first | (with_reducible first | exact HB.out | apply below_alloc | apply pw_below_drewN | apply below_drew1) | exact HB.out)⟩⟩
    case round =>
      clear H'
      try clear c1
      try clear p2
      try clear c5
      try clear c5b0
      try clear c5b1
      obtain ⟨x9_1, x22_1, rfl, HA, HK1, HO_9, HB⟩ := hrel
      cases gk with
      | zero => exact absurd HA.out (by simp [echo_combined.l0])
      | succ k1 =>
        have H := HA.out
        clear HA
        simp only [echo_combined.l0] at H
        by_cases c6 : x22_1 < (l0.length : Int)
        · rw [if_pos c6] at H
          have c6b0 : decide (x22_1 < (l0.length : Int)) = true := decide_eq_true c6
          clear c6
          by_cases c7 : 0 ≤ x22_1
          · rw [if_pos c7] at H
            have c7b0 : decide (0 ≤ x22_1) = true := decide_eq_true c7
            clear c7
            by_cases c8 : x22_1 < (l0.length : Int)
            · rw [if_pos c8] at H
              have c8b0 : decide (x22_1 < (l0.length : Int)) = true := decide_eq_true c8
              clear c8
              have H' := Aside0.mk H
              clear H
              have p102 : 0 ≤ (x22_1 : Int) := of_decide_eq_true (by first | (with_reducible assumption) | assumption)
              have q102 : x22_1 < (l0.length : Int) := of_decide_eq_true (by first | (with_reducible assumption) | assumption)
              obtain ⟨ad102, e102, hx102_0⟩ := Kd.at_int HR0.out x22_1 p102 q102
              cases e102
              replace hx102_0 := (HB.out.cell (World.block_lt_of_cell? w _ hx102_0)).trans hx102_0
              replace p102 := eq_true p102
              replace q102 := eq_true q102
              go_wp2
              go_loopg [9, 28] k1 (fun kq v9 v28 w' => ∃ (x9_2 : List Int) (x28_2 : Int), v28 = .int .i64 x28_2 ∧ Aside0 (echo_combined.l1 kq l1 a2 x9_2 (rd l0 x22_1) l0 (l0.length : Int) x22_1 l1 (l1.length : Int) x28_2 = some (r1, r2)) ∧ Aside0 (kq ≤ k1) ∧ Aside0 (Kd.R (Kd.int .i64) 3 w' w.heap.size (fun _ => True) v9 x9_2) ∧ Aside0 (Below w.heap.size w w'))
              case atStart => exact ⟨(x9_1), (0), (by first | rfl | (simp; done) | (simp [*]; done)), H', ⟨Nat.le_refl _⟩, ⟨by (with_reducible repeat (first | apply Kd.R_alloc | apply Kd.R_drewN | apply Kd.R_drew)); exact HO_9.out⟩, ⟨by repeat (first | (with_reducible first | exact HB.out | apply below_alloc | apply pw_below_drewN | apply below_drew1) | exact HB.out)⟩⟩
              case round =>
                clear H'
                try clear c1
                try clear p1
                try clear q1
                try clear hx1
                try clear p2
                try clear c5
                try clear c5b0
                try clear c5b1
                try clear c6
                try clear c6b0
                try clear c7
                try clear c7b0
                try clear c8
                try clear c8b0
                try clear hx102_0
                try clear p102
                try clear p2
                try clear q102
                obtain ⟨x9_2, x28_2, rfl, HA, HK2, HO_9, HB⟩ := hrel
                cases gk with
                | zero => exact absurd HA.out (by simp [echo_combined.l1])
                | succ k2 =>
                  have H := HA.out
                  clear HA
                  simp only [echo_combined.l1] at H
                  by_cases c9 : x28_2 < (l1.length : Int)
                  · rw [if_pos c9] at H
                    have c9b0 : decide (x28_2 < (l1.length : Int)) = true := decide_eq_true c9
                    clear c9
                    by_cases c10 : 0 ≤ x28_2
                    · rw [if_pos c10] at H
                      have c10b0 : decide (0 ≤ x28_2) = true := decide_eq_true c10
                      clear c10
                      by_cases c11 : x28_2 < (l1.length : Int)
                      · rw [if_pos c11] at H
                        have c11b0 : decide (x28_2 < (l1.length : Int)) = true := decide_eq_true c11
                        clear c11
                        by_cases c12 : x9_2.length < 17592186044416
                        · rw [if_pos c12] at H
                          have LMc12 := Aside0.mk c12
                          clear c12
                          obtain ⟨y104, hy104⟩ : ∃ y_ : List Int, y_ = (x9_2 ++ [wrap64 ((rd l0 x22_1) + (wrap64 (a2 * (rd l1 x28_2))))]) := ⟨_, rfl⟩
                          replace H : (echo_combined.l1 k2 l1 a2 y104 (rd l0 x22_1) l0 (l0.length : Int) x22_1 l1 (l1.length : Int) (wrap64 (x28_2 + 1))) = some (r1, r2) := by first | (rw [hy104]; with_reducible exact H) | (have H2_ := (Option.bind_some _ _).symm.trans H; rw [hy104]; with_reducible exact H2_) | (have H2_ := (Option.bind_some _ _).symm.trans H; with_reducible exact H2_) | with_reducible exact H | (rw [hy104]; exact H) | exact H
                          have Ny104 := Aside0.mk hy104
                          clear hy104
                          have H' := Aside0.mk H
                          clear H
                          have p103 : 0 ≤ (x28_2 : Int) := of_decide_eq_true (by first | (with_reducible assumption) | assumption)
                          have q103 : x28_2 < (l1.length : Int) := of_decide_eq_true (by first | (with_reducible assumption) | assumption)
                          obtain ⟨ad103, e103, hx103_0⟩ := Kd.at_int HR1.out x28_2 p103 q103
                          cases e103
                          replace hx103_0 := (HB.out.cell (World.block_lt_of_cell? w _ hx103_0)).trans hx103_0
                          replace p103 := eq_true p103
                          replace q103 := eq_true q103
                          go_wp2_with (first | ((with_reducible refine gate_builtin (b := .append) (xs := #[.tmp 32, .tmp 38]) rfl ?_); at_builtin; refine Kd.R_append (Kd.int .i64) (w0 := w) w.heap.size rfl (.tmp 32) (.tmp 38) 22 3 (.int .i64 0) 8 rfl Try.underlying22 info3 rfl (by decide) (by omega) u9 x9_2 (wrap64 ((rd l0 x22_1) + (wrap64 (a2 * (rd l1 x28_2))))) [.int .i64 (wrap64 ((rd l0 x22_1) + (wrap64 (a2 * (rd l1 x28_2)))))] (fun _ => True) (fun _ => False) rfl rfl ?aP (fun _ hk => hk.elim) ?aF ?aO ?aB ?aS ?aL ?_; (case aP => exact rfl); (case aB => exact (by repeat (first | (with_reducible first | exact HB.out | apply below_alloc | apply pw_below_drewN | apply below_drew1) | exact HB.out))); (case aF => exact (fun _ _ => trivial)); (case aO => exact (by (with_reducible repeat (first | apply Kd.R_alloc | apply Kd.R_drewN | apply Kd.R_drew)); exact HO_9.out)); (case aS => exact (below_size (by repeat (first | (with_reducible first | exact HB.out | apply below_alloc | apply pw_below_drewN | apply below_drew1) | exact HB.out)))); (case aL => have := LMc12.out; omega); intro v105 w13 ho hb hg hat; rw [← Ny104.out] at ho; have n0_ := Aside0.mk (hb); have n1_ := Aside0.mk (ho); clear HB; clear HO_9; have HB := n0_; have HO106 := n1_; clear n0_ n1_; clear ho hb hg hat))
                          go_roundg k2
                          case measure => have := HK1.out; have := HK2.out; omega
                          case rel => exact ⟨(y104), (wrap64 (x28_2 + 1)), (by first | rfl | (simp; done) | (simp [*]; done)), H', ⟨by have := HK1.out; have := HK2.out; omega⟩, ⟨by (with_reducible repeat (first | apply Kd.R_alloc | apply Kd.R_drewN | apply Kd.R_drew)); exact HO106.out⟩, ⟨by repeat (first | (with_reducible first | exact HB.out | apply below_alloc | apply pw_below_drewN | apply below_drew1) | exact HB.out)⟩⟩
                        · rw [if_neg c12] at H
                          exact absurd H (by simp)
                      · rw [if_neg c11] at H
                        exact absurd H (by simp)
                    · rw [if_neg c10] at H
                      exact absurd H (by simp)
                  · rw [if_neg c9] at H
                    have c9b0 : decide (x28_2 < (l1.length : Int)) = false := decide_eq_false c9
                    clear c9
                    have H' := Aside0.mk H
                    clear H
                    go_wp2
                    go_roundg k2
                    case measure => have := HK1.out; have := HK2.out; omega
                    case rel => exact ⟨(x9_2), (wrap64 (x22_1 + 1)), (by first | rfl | (simp; done) | (simp [*]; done)), H', ⟨by have := HK1.out; have := HK2.out; omega⟩, ⟨by (with_reducible repeat (first | apply Kd.R_alloc | apply Kd.R_drewN | apply Kd.R_drew)); exact HO_9.out⟩, ⟨by repeat (first | (with_reducible first | exact HB.out | apply below_alloc | apply pw_below_drewN | apply below_drew1) | exact HB.out)⟩⟩
            · rw [if_neg c8] at H
              exact absurd H (by simp)
          · rw [if_neg c7] at H
            exact absurd H (by simp)
        · rw [if_neg c6] at H
          have c6b0 : decide (x22_1 < (l0.length : Int)) = false := decide_eq_false c6
          clear c6
          replace H := Option.bind_eq_some_iff.mp H
          obtain ⟨t107, A140, H⟩ := H
          replace H : ((slices_Clone_int_int.f t107).bind fun t108 => ((slices_Compact_int_int.f t108).bind fun t111 => (if (t111.length : Int) < (x9_1.length : Int) then (some (([] : List Int), 5)) else ((echo_checked.f k1 t107).bind fun bt114 => (some (bt114.1, bt114.2)))))) = some (r1, r2) := H
          have A14 := Aside0.mk A140
          clear A140
          replace H := Option.bind_eq_some_iff.mp H
          obtain ⟨t108, A150, H⟩ := H
          replace H : ((slices_Compact_int_int.f t108).bind fun t111 => (if (t111.length : Int) < (x9_1.length : Int) then (some (([] : List Int), 5)) else ((echo_checked.f k1 t107).bind fun bt114 => (some (bt114.1, bt114.2))))) = some (r1, r2) := H
          have A15 := Aside0.mk A150
          clear A150
          replace H := Option.bind_eq_some_iff.mp H
          obtain ⟨t111, A160, H⟩ := H
          replace H : (if (t111.length : Int) < (x9_1.length : Int) then (some (([] : List Int), 5)) else ((echo_checked.f k1 t107).bind fun bt114 => (some (bt114.1, bt114.2)))) = some (r1, r2) := H
          have A16 := Aside0.mk A160
          clear A160
          by_cases c17 : (t111.length : Int) < (x9_1.length : Int)
          · rw [if_pos c17] at H
            have c17b0 : decide ((t111.length : Int) < (x9_1.length : Int)) = true := decide_eq_true c17
            have c17b1 : decide (t111.length < x9_1.length) = true := decide_eq_true (Int.ofNat_lt.mp c17)
            clear c17
            simp only [Option.some.injEq, Prod.mk.injEq] at H
            obtain ⟨rfl, rfl⟩ := H
            obtain ⟨Ao18, co18, eo18⟩ := Kd.R_slice HO_9.out
            subst eo18
            go_wp2_with (first | ((with_reducible refine gate_callee (f := 71) rfl ?_); refine goesL_ (some 43) rfl rfl Try.func71 (by kernel_rfl) rfl #[.slice Ao18 x9_1.length co18] rfl (by (try simp only [List.map_toArray, List.map_cons, List.map_nil]); first | done | rfl | (simp only [List.length_drop, List.length_take]; rfl)) ?_; (with_reducible refine (slices_Sort_int_int.calls (fun k_ => some k_ = (.slice Ao18 x9_1.length co18 : Value).ownBlock) (.slice Ao18 x9_1.length co18) x9_1 t107 w _ ?side1 ?side2 A14.out).mono ?_); (case side1 => repeat (first | (with_reducible first | exact HB.out | apply below_alloc | apply pw_below_drewN | apply below_drew1) | exact HB.out)); (case side2 => exact Kd.R_tight rfl HO_9.out); rintro e w19 ⟨rfl, hy0, hb, hkp⟩; refine ⟨_, rfl, ?_⟩; have n0_ := Aside0.mk (Kd.R_reok rfl hy0 (fun k_ e_ => HO_9.out.1 k_ e_)); have n1_ := Aside0.mk (hb); clear HO_9; clear HB; have HO_9 := n0_; have HB := n1_; clear n0_ n1_; (try clear hb); (try clear hkp); (try clear hy0)) | ((with_reducible refine gate_callee (f := 73) rfl ?_); refine goesL_ (some 45) rfl rfl Try.func73 (by kernel_rfl) rfl #[.slice Ao18 t107.length co18] rfl (by (try simp only [List.map_toArray, List.map_cons, List.map_nil]); first | done | (rw [show t107.length = x9_1.length from (Kd.R_reads' HO_9.out).1.symm] <;> rfl) | rfl | (simp only [List.length_drop, List.length_take]; rfl)) ?_; (with_reducible refine (slices_Clone_int_int.calls _ _ t107 t108 _ ?side1 ?side2 A15.out).mono ?_); (case side1 => repeat (first | exact (Kd.R_reads' HO_9.out).2.2 | (with_reducible refine Kd.C_alloc ?_ _) | (with_reducible refine Kd.C_drewN ?_ _) | (with_reducible refine Kd.C_drew ?_))); (case side2 => rw [show t107.length = x9_1.length from (Kd.R_reads' HO_9.out).1.symm]; exact (Kd.R_reads' HO_9.out).2.1); rintro e w20 ⟨v109, rfl, ho0, hb⟩; refine ⟨_, rfl, ?_⟩; have n0_ := Aside0.mk (Kd.R_elder' (by (with_reducible repeat (first | apply Kd.R_alloc | apply Kd.R_drewN | apply Kd.R_drew)); exact HO_9.out) (Kd.R_base ho0) hb); have n1_ := Aside0.mk (Kd.R_lower (Kd.R_new' ho0 (Kd.R_lt (by (with_reducible repeat (first | apply Kd.R_alloc | apply Kd.R_drewN | apply Kd.R_drew)); exact HO_9.out))) (below_size (by repeat (first | (with_reducible first | exact HB.out | apply below_alloc | apply pw_below_drewN | apply below_drew1) | exact HB.out)))); have n2_ := Aside0.mk (below_step (by repeat (first | (with_reducible first | exact HB.out | apply below_alloc | apply pw_below_drewN | apply below_drew1) | exact HB.out)) hb); clear HO_9; clear HB; have HO_9 := n0_; have HO110 := n1_; have HB := n2_; clear n0_ n1_ n2_; (try clear hb); (try clear hb2); (try clear hk); (try clear hi); (try clear ho0); obtain ⟨Ao21, co21, eo21⟩ := Kd.R_slice HO110.out; subst eo21) | ((with_reducible refine gate_callee (f := 83) rfl ?_); refine goesL_ (some 46) rfl rfl Try.func83 (by kernel_rfl) rfl #[.slice Ao21 t108.length co21] rfl (by (try simp only [List.map_toArray, List.map_cons, List.map_nil]); first | done | rfl | (simp only [List.length_drop, List.length_take]; rfl)) ?_; (with_reducible refine (slices_Compact_int_int.calls (fun k_ => some k_ = (.slice Ao21 t108.length co21 : Value).ownBlock) (.slice Ao21 t108.length co21) t108 t111 w _ ?side1 ?side2 A16.out).mono ?_); (case side1 => repeat (first | (with_reducible first | exact HB.out | apply below_alloc | apply pw_below_drewN | apply below_drew1) | exact HB.out)); (case side2 => exact Kd.R_tight rfl HO110.out); rintro e w22 ⟨v112, rfl, ho0, hb, hkp⟩; refine ⟨_, rfl, ?_⟩; have n0_ := Aside0.mk (Kd.R_mono (ok' := fun k_ => some k_ ≠ (v112 : Value).ownBlock) (Kd.R_keptB (HO_9.out) hkp (fun k_ hk_ hs_ => (hk_.2) hs_)) (fun k_ hk_ => fun e_ => Or.elim (ho0.1 k_ e_.symm) (fun hs_ => hk_.2.1 hs_) (fun hn_ => Nat.not_le.2 hk_.2.2 hn_))); have n1_ := Aside0.mk (Kd.R_mono (ok' := fun k_ => some k_ ≠ (.slice Ao18 x9_1.length co18 : Value).ownBlock) ho0 (fun k_ hk_ => Or.elim hk_ (fun hs_ => fun e_ => (((HO_9.out).1 k_ e_.symm).2) hs_) (fun hn_ => (Kd.fresh' (Kd.R_lt (by (with_reducible repeat (first | apply Kd.R_alloc | apply Kd.R_drewN | apply Kd.R_drew)); exact HO_9.out)) k_ hn_)))); have n2_ := Aside0.mk (hb); clear HO_9; clear HB; clear HO110; have HO_9 := n0_; have HO113 := n1_; have HB := n2_; clear n0_ n1_ n2_; (try clear hb); (try clear hkp); (try clear ho0); obtain ⟨Ao23, co23, eo23⟩ := Kd.R_slice HO113.out; subst eo23))
            go_ret2
            exact ⟨_, by first | rfl | (simp [errW_none, errW_some] <;> rfl) | (simp [*, errW_none, errW_some] <;> rfl), by first | exact Kd.R_nil _ _ _ _ _ | exact Kd.N_nil _ _ _ _ _ | exact Kd.V_nil _ _ _ _ _ | exact Kd.Q_nil _ _ _ _ _ | exact Kd.S_nil _ _ _ _ _, by repeat (first | (with_reducible first | exact HB.out | apply below_alloc | apply pw_below_drewN | apply below_drew1) | exact HB.out)⟩
          · rw [if_neg c17] at H
            have c17b0 : decide ((t111.length : Int) < (x9_1.length : Int)) = false := decide_eq_false c17
            have c17b1 : decide (t111.length < x9_1.length) = false := decide_eq_false (fun h => c17 (Int.ofNat_lt.mpr h))
            clear c17
            replace H := Option.bind_eq_some_iff.mp H
            obtain ⟨⟨t114, t117⟩, A240, H⟩ := H
            replace H : (some (t114, t117)) = some (r1, r2) := H
            have A24 := Aside0.mk A240
            clear A240
            simp only [Option.some.injEq, Prod.mk.injEq] at H
            obtain ⟨rfl, rfl⟩ := H
            obtain ⟨Ao25, co25, eo25⟩ := Kd.R_slice HO_9.out
            subst eo25
            go_wp2_with (first | ((with_reducible refine gate_callee (f := 71) rfl ?_); refine goesL_ (some 43) rfl rfl Try.func71 (by kernel_rfl) rfl #[.slice Ao25 x9_1.length co25] rfl (by (try simp only [List.map_toArray, List.map_cons, List.map_nil]); first | done | rfl | (simp only [List.length_drop, List.length_take]; rfl)) ?_; (with_reducible refine (slices_Sort_int_int.calls (fun k_ => some k_ = (.slice Ao25 x9_1.length co25 : Value).ownBlock) (.slice Ao25 x9_1.length co25) x9_1 t107 w _ ?side1 ?side2 A14.out).mono ?_); (case side1 => repeat (first | (with_reducible first | exact HB.out | apply below_alloc | apply pw_below_drewN | apply below_drew1) | exact HB.out)); (case side2 => exact Kd.R_tight rfl HO_9.out); rintro e w26 ⟨rfl, hy0, hb, hkp⟩; refine ⟨_, rfl, ?_⟩; have n0_ := Aside0.mk (Kd.R_reok rfl hy0 (fun k_ e_ => HO_9.out.1 k_ e_)); have n1_ := Aside0.mk (hb); clear HO_9; clear HB; have HO_9 := n0_; have HB := n1_; clear n0_ n1_; (try clear hb); (try clear hkp); (try clear hy0)) | ((with_reducible refine gate_callee (f := 73) rfl ?_); refine goesL_ (some 45) rfl rfl Try.func73 (by kernel_rfl) rfl #[.slice Ao25 t107.length co25] rfl (by (try simp only [List.map_toArray, List.map_cons, List.map_nil]); first | done | (rw [show t107.length = x9_1.length from (Kd.R_reads' HO_9.out).1.symm] <;> rfl) | rfl | (simp only [List.length_drop, List.length_take]; rfl)) ?_; (with_reducible refine (slices_Clone_int_int.calls _ _ t107 t108 _ ?side1 ?side2 A15.out).mono ?_); (case side1 => repeat (first | exact (Kd.R_reads' HO_9.out).2.2 | (with_reducible refine Kd.C_alloc ?_ _) | (with_reducible refine Kd.C_drewN ?_ _) | (with_reducible refine Kd.C_drew ?_))); (case side2 => rw [show t107.length = x9_1.length from (Kd.R_reads' HO_9.out).1.symm]; exact (Kd.R_reads' HO_9.out).2.1); rintro e w27 ⟨v109, rfl, ho0, hb⟩; refine ⟨_, rfl, ?_⟩; have n0_ := Aside0.mk (Kd.R_elder' (by (with_reducible repeat (first | apply Kd.R_alloc | apply Kd.R_drewN | apply Kd.R_drew)); exact HO_9.out) (Kd.R_base ho0) hb); have n1_ := Aside0.mk (Kd.R_lower (Kd.R_new' ho0 (Kd.R_lt (by (with_reducible repeat (first | apply Kd.R_alloc | apply Kd.R_drewN | apply Kd.R_drew)); exact HO_9.out))) (below_size (by repeat (first | (with_reducible first | exact HB.out | apply below_alloc | apply pw_below_drewN | apply below_drew1) | exact HB.out)))); have n2_ := Aside0.mk (below_step (by repeat (first | (with_reducible first | exact HB.out | apply below_alloc | apply pw_below_drewN | apply below_drew1) | exact HB.out)) hb); clear HO_9; clear HB; have HO_9 := n0_; have HO110 := n1_; have HB := n2_; clear n0_ n1_ n2_; (try clear hb); (try clear hb2); (try clear hk); (try clear hi); (try clear ho0); obtain ⟨Ao28, co28, eo28⟩ := Kd.R_slice HO110.out; subst eo28) | ((with_reducible refine gate_callee (f := 83) rfl ?_); refine goesL_ (some 46) rfl rfl Try.func83 (by kernel_rfl) rfl #[.slice Ao28 t108.length co28] rfl (by (try simp only [List.map_toArray, List.map_cons, List.map_nil]); first | done | rfl | (simp only [List.length_drop, List.length_take]; rfl)) ?_; (with_reducible refine (slices_Compact_int_int.calls (fun k_ => some k_ = (.slice Ao28 t108.length co28 : Value).ownBlock) (.slice Ao28 t108.length co28) t108 t111 w _ ?side1 ?side2 A16.out).mono ?_); (case side1 => repeat (first | (with_reducible first | exact HB.out | apply below_alloc | apply pw_below_drewN | apply below_drew1) | exact HB.out)); (case side2 => exact Kd.R_tight rfl HO110.out); rintro e w29 ⟨v112, rfl, ho0, hb, hkp⟩; refine ⟨_, rfl, ?_⟩; have n0_ := Aside0.mk (Kd.R_mono (ok' := fun k_ => some k_ ≠ (v112 : Value).ownBlock) (Kd.R_keptB (HO_9.out) hkp (fun k_ hk_ hs_ => (hk_.2) hs_)) (fun k_ hk_ => fun e_ => Or.elim (ho0.1 k_ e_.symm) (fun hs_ => hk_.2.1 hs_) (fun hn_ => Nat.not_le.2 hk_.2.2 hn_))); have n1_ := Aside0.mk (Kd.R_mono (ok' := fun k_ => some k_ ≠ (.slice Ao25 x9_1.length co25 : Value).ownBlock) ho0 (fun k_ hk_ => Or.elim hk_ (fun hs_ => fun e_ => (((HO_9.out).1 k_ e_.symm).2) hs_) (fun hn_ => (Kd.fresh' (Kd.R_lt (by (with_reducible repeat (first | apply Kd.R_alloc | apply Kd.R_drewN | apply Kd.R_drew)); exact HO_9.out)) k_ hn_)))); have n2_ := Aside0.mk (hb); clear HO_9; clear HB; clear HO110; have HO_9 := n0_; have HO113 := n1_; have HB := n2_; clear n0_ n1_ n2_; (try clear hb); (try clear hkp); (try clear ho0); obtain ⟨Ao30, co30, eo30⟩ := Kd.R_slice HO113.out; subst eo30) | ((with_reducible refine gate_callee (f := 75) rfl ?_); refine goesL_ (some 52) rfl rfl Try.func75 (by kernel_rfl) rfl #[.slice Ao25 x9_1.length co25] rfl (by (try simp only [List.map_toArray, List.map_cons, List.map_nil]); first | done | rfl | (simp only [List.length_drop, List.length_take]; rfl)) ?_; (with_reducible refine (echo_checked.calls k1 (fun k_ => some k_ = (.slice Ao25 x9_1.length co25 : Value).ownBlock) (.slice Ao25 x9_1.length co25) t107 t114 t117 w _ ?side1 ?side2 A24.out).mono ?_); (case side1 => repeat (first | (with_reducible first | exact HB.out | apply below_alloc | apply pw_below_drewN | apply below_drew1) | exact HB.out)); (case side2 => exact Kd.R_tight rfl HO_9.out); rintro e w31 ⟨v115, rfl, ho0, hb, hkp⟩; refine ⟨_, rfl, ?_⟩; have n0_ := Aside0.mk (Kd.R_mono (ok' := fun k_ => some k_ ≠ (v115 : Value).ownBlock) (Kd.R_keptB (HO113.out) hkp (fun k_ hk_ hs_ => (hk_) hs_)) (fun k_ hk_ => fun e_ => Or.elim (ho0.1 k_ e_.symm) (fun hs_ => hk_.2.1 hs_) (fun hn_ => Nat.not_le.2 hk_.2.2 hn_))); have n1_ := Aside0.mk (Kd.R_mono (ok' := fun k_ => some k_ ≠ (.slice Ao30 t111.length co30 : Value).ownBlock) ho0 (fun k_ hk_ => Or.elim hk_ (fun hs_ => fun e_ => (((HO113.out).1 k_ e_.symm)) hs_) (fun hn_ => (Kd.fresh' (Kd.R_lt (by (with_reducible repeat (first | apply Kd.R_alloc | apply Kd.R_drewN | apply Kd.R_drew)); exact HO113.out)) k_ hn_)))); have n2_ := Aside0.mk (hb); clear HO113; clear HB; clear HO_9; have HO113 := n0_; have HO116 := n1_; have HB := n2_; clear n0_ n1_ n2_; (try clear hb); (try clear hkp); (try clear ho0)))
            go_ret2
            exact ⟨_, by first | rfl | (simp [errW_none, errW_some] <;> rfl) | (simp [*, errW_none, errW_some] <;> rfl), by (with_reducible repeat (first | apply Kd.R_alloc | apply Kd.R_drewN | apply Kd.R_drew)); exact Kd.R_mono HO116.out (fun _ hk => trivial), by repeat (first | (with_reducible first | exact HB.out | apply below_alloc | apply pw_below_drewN | apply below_drew1) | exact HB.out)⟩
  · rw [if_neg c5] at H
    have c5b0 : (t101 == 0) = false := beq_eq_false_iff_ne.mpr c5
    have c5b1 : (t101 != 0) = true := bne_iff_ne.mpr c5
    simp only [Option.some.injEq, Prod.mk.injEq] at H
    obtain ⟨rfl, rfl⟩ := H
    go_enter Try.func81, Try.ntmps81
    go_wp2_with (first | ((with_reducible refine gate_callee (f := 64) rfl ?_); refine goesL_ (some 16) rfl rfl Try.func64 (by kernel_rfl) rfl #[.slice A0 l0.length c0, .slice A1 l1.length c1] rfl (by (try simp only [List.map_toArray, List.map_cons, List.map_nil]); first | done | rfl | (simp only [List.length_drop, List.length_take]; rfl)) ?_; (with_reducible refine (echo_both.calls k _ _ l0 _ _ l1 t101 _ ?side1 ?side2 ?side3 ?side4 A4.out).mono ?_); (case side1 => repeat (first | exact HR0.out | (with_reducible refine Kd.C_alloc ?_ _) | (with_reducible refine Kd.C_drewN ?_ _) | (with_reducible refine Kd.C_drew ?_))); (case side2 => exact HC0.out); (case side3 => repeat (first | exact HR1.out | (with_reducible refine Kd.C_alloc ?_ _) | (with_reducible refine Kd.C_drewN ?_ _) | (with_reducible refine Kd.C_drew ?_))); (case side4 => exact HC1.out); rintro e w' ⟨rfl, ⟨nd, rfl⟩⟩; refine ⟨_, rfl, ?_⟩))
    go_ret2
    exact ⟨_, by first | rfl | (simp [errW_none, errW_some] <;> rfl) | (simp [*, errW_none, errW_some] <;> rfl), by first | exact Kd.R_nil _ _ _ _ _ | exact Kd.N_nil _ _ _ _ _ | exact Kd.V_nil _ _ _ _ _ | exact Kd.Q_nil _ _ _ _ _ | exact Kd.S_nil _ _ _ _ _, by repeat (first | (with_reducible first | exact HB.out | apply below_alloc | apply pw_below_drewN | apply below_drew1) | exact HB.out)⟩

end Go.Proofs.Ytlbhedhbakhhlaa.Q

namespace Go.Proofs.Ytlbhedhbakhhlaa.Q
open Go.RowKit Go.Proofs.YtlbhedhbakhhlaaW.PrintWords Go.Proofs.YtlbhedhbakhhlaaW.PrintLast Go.Proofs.YtlbhedhbakhhlaaW.PrintMore
attribute [local go_sem] max2_int min2_int max_two min_two max_three min_three max_four min_four   -- for this text's walks alone
set_option linter.unusedVariables false
set_option linter.unusedSimpArgs false

/-! ### echo_Minus: function 50 -/
def echo_Minus.f (k : Nat) (l0 : List Int) (l1 : List Int) : Option (List Int × Int) := (echo_combined.f k l0 l1 (-1)).bind fun bt101 => (some (bt101.1, bt101.2))
theorem echo_Minus.mono : ∀ a0 a1 k, LeO (echo_Minus.f k a0 a1) (echo_Minus.f (k + 1) a0 a1) := by
  intro a0 a1 k
  unfold echo_Minus.f
  repeat' first
      | (with_reducible exact echo_combined.mono _ _ _ _)
      | (with_reducible exact LeO.refl _)
      | (with_reducible exact LeO.none _)
      | (with_reducible refine LeO.ite ?_ ?_)
      | (with_reducible refine LeO.bind ?_ (fun _ => ?_))
      | exact echo_combined.mono _ _ _ _
      | exact LeO.none _
      | refine LeO.ite ?_ ?_
      | refine LeO.bind ?_ (fun _ => ?_)
set_option maxHeartbeats 8000000 in
set_option maxRecDepth 100000 in
theorem echo_Minus.calls (k : Nat) (A0 : Option Addr) (c0 : Nat) (l0 : List Int) (A1 : Option Addr) (c1 : Nat) (l1 : List Int) (r1 : List Int) (r2 : Int) (w : World) (hr0 : Kd.C (Kd.int .i64) w A0 l0.length l0) (hc0 : l0.length ≤ c0) (hr1 : Kd.C (Kd.int .i64) w A1 l1.length l1) (hc1 : l1.length ≤ c1) (h : echo_Minus.f k l0 l1 = some (r1, r2)) :
    Calls Try.prog 50 #[.slice A0 l0.length c0, .slice A1 l1.length c1] w fun e w' => ∃ v0_ : Value, e = .returned (.tuple #[v0_, .int .i64 r2]) ∧ Kd.R (Kd.int .i64) 3 w' w.heap.size (fun _ => True) v0_ r1 ∧ Below w.heap.size w w' := by
  have HR0 := Aside0.mk hr0
  have HC0 := Aside0.mk hc0
  clear hr0 hc0
  have HR1 := Aside0.mk hr1
  have HC1 := Aside0.mk hc1
  clear hr1 hc1
  have HB := Aside0.mk (Below.refl w.heap.size w)
  have H : ((echo_combined.f k l0 l1 (-1)).bind fun bt101 => (some (bt101.1, bt101.2))) = some (r1, r2) := h
  clear h
  replace H := Option.bind_eq_some_iff.mp H
  obtain ⟨⟨t101, t102⟩, A30, H⟩ := H
  replace H : (some (t101, t102)) = some (r1, r2) := H
  have A3 := Aside0.mk A30
  clear A30
  simp only [Option.some.injEq, Prod.mk.injEq] at H
  obtain ⟨rfl, rfl⟩ := H
  go_enter Try.func50, Try.ntmps50
  go_wp2_with (first | ((with_reducible refine gate_callee (f := 81) rfl ?_); refine goesL_ (some 8) rfl rfl Try.func81 (by kernel_rfl) rfl #[.slice A0 l0.length c0, .slice A1 l1.length c1, .int .i64 (-1)] rfl (by (try simp only [List.map_toArray, List.map_cons, List.map_nil]); first | done | rfl | (simp only [List.length_drop, List.length_take]; rfl)) ?_; (with_reducible refine (echo_combined.calls k _ _ l0 _ _ l1 (-1) t101 t102 _ ?side1 ?side2 ?side3 ?side4 A3.out).mono ?_); (case side1 => repeat (first | exact HR0.out | (with_reducible refine Kd.C_alloc ?_ _) | (with_reducible refine Kd.C_drewN ?_ _) | (with_reducible refine Kd.C_drew ?_))); (case side2 => exact HC0.out); (case side3 => repeat (first | exact HR1.out | (with_reducible refine Kd.C_alloc ?_ _) | (with_reducible refine Kd.C_drewN ?_ _) | (with_reducible refine Kd.C_drew ?_))); (case side4 => exact HC1.out); rintro e w4 ⟨v103, rfl, ho0, hb⟩; refine ⟨_, rfl, ?_⟩; have n0_ := Aside0.mk (Kd.R_lower ho0 (below_size (by repeat (first | (with_reducible first | exact HB.out | apply below_alloc | apply pw_below_drewN | apply below_drew1) | exact HB.out)))); have n1_ := Aside0.mk (below_step (by repeat (first | (with_reducible first | exact HB.out | apply below_alloc | apply pw_below_drewN | apply below_drew1) | exact HB.out)) hb); clear HB; have HO104 := n0_; have HB := n1_; clear n0_ n1_; (try clear hb); (try clear hb2); (try clear hk); (try clear hi); (try clear ho0)))
  go_ret2
  exact ⟨_, by first | rfl | (simp [errW_none, errW_some] <;> rfl) | (simp [*, errW_none, errW_some] <;> rfl), by (with_reducible repeat (first | apply Kd.R_alloc | apply Kd.R_drewN | apply Kd.R_drew)); exact HO104.out, by repeat (first | (with_reducible first | exact HB.out | apply below_alloc | apply pw_below_drewN | apply below_drew1) | exact HB.out)⟩

end Go.Proofs.Ytlbhedhbakhhlaa.Q

namespace Go.Proofs.Ytlbhedhbakhhlaa.Q
open Go.RowKit Go.Proofs.YtlbhedhbakhhlaaW.PrintWords Go.Proofs.YtlbhedhbakhhlaaW.PrintLast Go.Proofs.YtlbhedhbakhhlaaW.PrintMore
attribute [local go_sem] max2_int min2_int max_two min_two max_three min_three max_four min_four   -- for this text's walks alone
set_option linter.unusedVariables false
set_option linter.unusedSimpArgs false

/-! ### echo_delays: function 52 -/
mutual
def echo_delays.l0 : Nat → List Int → List Int → List Int → Int → Int → Option (List Int)
  | 0, _, _, _, _, _ => none
  | k + 1, x0, x3, x8, x9, x10 => if x10 < x9 then (if 0 ≤ x10 then (if x10 < (x8.length : Int) then (if x10 ≤ (x0.length : Int) then (echo_delays.l1 k x0 x3 (rd x8 x10) x8 x9 x10 (x0.take (x10 : Int).toNat) ((x0.take (x10 : Int).toNat).length : Int) 0) else (none)) else (none)) else (none)) else ((slices_Sort_int_int.f x3).bind fun t101 => (some t101))
def echo_delays.l1 : Nat → List Int → List Int → Int → List Int → Int → Int → List Int → Int → Int → Option (List Int)
  | 0, _, _, _, _, _, _, _, _, _ => none
  | k + 1, x0, x3, x5, x8, x9, x10, x17, x18, x19 => if x19 < x18 then (if 0 ≤ x19 then (if x19 < (x17.length : Int) then (if x3.length < 17592186044416 then (echo_delays.l1 k x0 (x3 ++ [wrap64 (x5 - (rd x17 x19))]) x5 x8 x9 x10 x17 x18 (wrap64 (x19 + 1))) else (none)) else (none)) else (none)) else (echo_delays.l0 k x0 x3 x8 x9 (wrap64 (x10 + 1)))
end
def echo_delays.f (k : Nat) (l0 : List Int) : Option (List Int) := echo_delays.l0 k l0 ([] : List Int) l0 (l0.length : Int) 0
theorem echo_delays.mono_l : ∀ k, (∀ y0 y1 y2 y3 y4, LeO (echo_delays.l0 k y0 y1 y2 y3 y4) (echo_delays.l0 (k + 1) y0 y1 y2 y3 y4)) ∧ (∀ y0 y1 y2 y3 y4 y5 y6 y7 y8, LeO (echo_delays.l1 k y0 y1 y2 y3 y4 y5 y6 y7 y8) (echo_delays.l1 (k + 1) y0 y1 y2 y3 y4 y5 y6 y7 y8))
  | 0 => ⟨fun _ _ _ _ _ r h => by simp [echo_delays.l0] at h, fun _ _ _ _ _ _ _ _ _ r h => by simp [echo_delays.l1] at h⟩
  | k + 1 => by
    obtain ⟨ih0, ih1⟩ := echo_delays.mono_l k
    refine ⟨?_, ?_⟩
    · intro y0 y1 y2 y3 y4
      unfold echo_delays.l0
      repeat' first
      | (with_reducible exact ih0 _ _ _ _ _)
      | (with_reducible exact ih1 _ _ _ _ _ _ _ _ _)
      | (with_reducible exact LeO.refl _)
      | (with_reducible exact LeO.none _)
      | (with_reducible refine LeO.ite ?_ ?_)
      | (with_reducible refine LeO.bind ?_ (fun _ => ?_))
      | exact ih0 _ _ _ _ _
      | exact ih1 _ _ _ _ _ _ _ _ _
      | exact LeO.none _
      | refine LeO.ite ?_ ?_
      | refine LeO.bind ?_ (fun _ => ?_)
    · intro y0 y1 y2 y3 y4 y5 y6 y7 y8
      unfold echo_delays.l1
      repeat' first
      | (with_reducible exact ih0 _ _ _ _ _)
      | (with_reducible exact ih1 _ _ _ _ _ _ _ _ _)
      | (with_reducible exact LeO.refl _)
      | (with_reducible exact LeO.none _)
      | (with_reducible refine LeO.ite ?_ ?_)
      | (with_reducible refine LeO.bind ?_ (fun _ => ?_))
      | exact ih0 _ _ _ _ _
      | exact ih1 _ _ _ _ _ _ _ _ _
      | exact LeO.none _
      | refine LeO.ite ?_ ?_
      | refine LeO.bind ?_ (fun _ => ?_)
theorem echo_delays.mono : ∀ a0 k, LeO (echo_delays.f k a0) (echo_delays.f (k + 1) a0) := by
  intro a0 k
  obtain ⟨ih0, ih1⟩ := echo_delays.mono_l k
  unfold echo_delays.f
  repeat' first
      | (with_reducible exact ih0 _ _ _ _ _)
      | (with_reducible exact ih1 _ _ _ _ _ _ _ _ _)
      | (with_reducible exact LeO.refl _)
      | (with_reducible exact LeO.none _)
      | (with_reducible refine LeO.ite ?_ ?_)
      | (with_reducible refine LeO.bind ?_ (fun _ => ?_))
      | exact ih0 _ _ _ _ _
      | exact ih1 _ _ _ _ _ _ _ _ _
      | exact LeO.none _
      | refine LeO.ite ?_ ?_
      | refine LeO.bind ?_ (fun _ => ?_)
set_option maxHeartbeats 8000000 in
set_option maxRecDepth 100000 in
theorem echo_delays.calls (k : Nat) (A0 : Option Addr) (c0 : Nat) (l0 : List Int) (r : List Int) (w : World) (hr0 : Kd.C (Kd.int .i64) w A0 l0.length l0) (hc0 : l0.length ≤ c0) (h : echo_delays.f k l0 = some r) :
    Calls Try.prog 52 #[.slice A0 l0.length c0] w fun e w' => ∃ v0_ : Value, e = .returned (v0_) ∧ Kd.R (Kd.int .i64) 3 w' w.heap.size (fun _ => True) v0_ r ∧ Below w.heap.size w w' := by
  have HR0 := Aside0.mk hr0
  have HC0 := Aside0.mk hc0
  clear hr0 hc0
  have HB := Aside0.mk (Below.refl w.heap.size w)
  have H : (echo_delays.l0 k l0 ([] : List Int) l0 (l0.length : Int) 0) = some r := h
  clear h
  have H' := Aside0.mk H
  clear H
  go_enter Try.func52, Try.ntmps52
  go_wp2
  go_loopg [3, 10] k (fun kq v3 v10 w' => ∃ (x3_1 : List Int) (x10_1 : Int), v10 = .int .i64 x10_1 ∧ Aside0 (echo_delays.l0 kq l0 x3_1 l0 (l0.length : Int) x10_1 = some r) ∧ Aside0 (kq ≤ k) ∧ Aside0 (Kd.R (Kd.int .i64) 3 w' w.heap.size (fun _ => True) v3 x3_1) ∧ Aside0 (Below w.heap.size w w'))
  case atStart => exact ⟨(([] : List Int)), (0), (by first | rfl | (simp; done) | (simp [*]; done)), H', ⟨Nat.le_refl _⟩, ⟨by first | exact Kd.R_nil _ _ _ _ _ | exact Kd.N_nil _ _ _ _ _ | exact Kd.V_nil _ _ _ _ _ | exact Kd.Q_nil _ _ _ _ _ | exact Kd.S_nil _ _ _ _ _⟩, ⟨by repeat (first | (with_reducible first | exact HB.out | apply below_alloc | apply pw_below_drewN | apply below_drew1) | exact HB.out)⟩⟩
  case round =>
    clear H'
    obtain ⟨x3_1, x10_1, rfl, HA, HK1, HO_3, HB⟩ := hrel
    cases gk with
    | zero => exact absurd HA.out (by simp [echo_delays.l0])
    | succ k1 =>
      have H := HA.out
      clear HA
      simp only [echo_delays.l0] at H
      by_cases c2 : x10_1 < (l0.length : Int)
      · rw [if_pos c2] at H
        have c2b0 : decide (x10_1 < (l0.length : Int)) = true := decide_eq_true c2
        clear c2
        by_cases c3 : 0 ≤ x10_1
        · rw [if_pos c3] at H
          have c3b0 : decide (0 ≤ x10_1) = true := decide_eq_true c3
          clear c3
          by_cases c4 : x10_1 < (l0.length : Int)
          · rw [if_pos c4] at H
            have c4b0 : decide (x10_1 < (l0.length : Int)) = true := decide_eq_true c4
            clear c4
            have c5b0 := eq_true (of_decide_eq_true (by first | (with_reducible assumption) | assumption) : 0 ≤ x10_1)
            by_cases c6 : x10_1 ≤ (l0.length : Int)
            · rw [if_pos c6] at H
              have c6b0 := eq_true c6
              have c6b1 : decide (x10_1 ≤ (l0.length : Int)) = true := decide_eq_true c6
              clear c6
              have H' := Aside0.mk H
              clear H
              have p102 : 0 ≤ (x10_1 : Int) := of_decide_eq_true (by first | (with_reducible assumption) | assumption)
              have q102 : x10_1 < (l0.length : Int) := of_decide_eq_true (by first | (with_reducible assumption) | assumption)
              obtain ⟨ad102, e102, hx102_0⟩ := Kd.at_int HR0.out x10_1 p102 q102
              cases e102
              replace hx102_0 := (HB.out.cell (World.block_lt_of_cell? w _ hx102_0)).trans hx102_0
              replace p102 := eq_true p102
              replace q102 := eq_true q102
              obtain ⟨i07, hi07, _, hsz7, _⟩ := info_parts info3
              obtain ⟨hcut7, hA7, hC7⟩ := print_take_of (P := Try.prog) (Value.int .i64) 0 22 3 .i64 Try.underlying22 hi07 hsz7 (some ad102) c0 l0 x10_1 (of_decide_eq_true (by first | (with_reducible assumption) | assumption)) (of_decide_eq_true (by first | (with_reducible assumption) | assumption)) HC0.out
              have HR103 := Aside0.mk (Kd.C_of_reads (h1 := fun _ => rfl) (hA7 _ (Kd.reads_of_C HR0.out)))
              have HC103 := Aside0.mk hC7
              clear hA7 hC7 hi07 hsz7
              have HLn : Aside0 ((((l0.take (x10_1 : Int).toNat).length : Nat) : Int) = max x10_1 0) := ⟨by have a_ := of_decide_eq_true c3b0; have b_ := of_decide_eq_true c4b0; rw [List.length_take]; omega⟩
              go_wp2
              go_loopg [3, 19] k1 (fun kq v3 v19 w' => ∃ (x3_2 : List Int) (x19_2 : Int), v19 = .int .i64 x19_2 ∧ Aside0 (echo_delays.l1 kq l0 x3_2 (rd l0 x10_1) l0 (l0.length : Int) x10_1 (l0.take (x10_1 : Int).toNat) ((l0.take (x10_1 : Int).toNat).length : Int) x19_2 = some r) ∧ Aside0 (kq ≤ k1) ∧ Aside0 (Kd.R (Kd.int .i64) 3 w' w.heap.size (fun _ => True) v3 x3_2) ∧ Aside0 (Below w.heap.size w w'))
              case atStart => exact ⟨(x3_1), (0), (by first | rfl | (simp; done) | (simp [*]; done)), H', ⟨Nat.le_refl _⟩, ⟨by (with_reducible repeat (first | apply Kd.R_alloc | apply Kd.R_drewN | apply Kd.R_drew)); exact HO_3.out⟩, ⟨by repeat (first | (with_reducible first | exact HB.out | apply below_alloc | apply pw_below_drewN | apply below_drew1) | exact HB.out)⟩⟩
              case round =>
                clear H'
                try clear p1
                try clear q1
                try clear hx1
                try clear c2
                try clear c2b0
                try clear p2
                try clear c3
                try clear c3b0
                try clear c4
                try clear c4b0
                try clear c5
                try clear c5b0
                try clear c6
                try clear c6b0
                try clear c6b1
                try clear hx102_0
                try clear p102
                try clear q102
                obtain ⟨x3_2, x19_2, rfl, HA, HK2, HO_3, HB⟩ := hrel
                cases gk with
                | zero => exact absurd HA.out (by simp [echo_delays.l1])
                | succ k2 =>
                  have H := HA.out
                  clear HA
                  simp only [echo_delays.l1] at H
                  by_cases c8 : x19_2 < ((l0.take (x10_1 : Int).toNat).length : Int)
                  · rw [if_pos c8] at H
                    have c8b0 : decide (x19_2 < ((l0.take (x10_1 : Int).toNat).length : Int)) = true := decide_eq_true c8
                    have c8b9 : decide (x19_2 < max x10_1 0) = true := by rw [← HLn.out]; exact c8b0
                    have c8b8 := eq_true (of_decide_eq_true c8b9)
                    clear c8
                    by_cases c9 : 0 ≤ x19_2
                    · rw [if_pos c9] at H
                      have c9b0 : decide (0 ≤ x19_2) = true := decide_eq_true c9
                      clear c9
                      by_cases c10 : x19_2 < ((l0.take (x10_1 : Int).toNat).length : Int)
                      · rw [if_pos c10] at H
                        have c10b0 : decide (x19_2 < ((l0.take (x10_1 : Int).toNat).length : Int)) = true := decide_eq_true c10
                        clear c10
                        by_cases c11 : x3_2.length < 17592186044416
                        · rw [if_pos c11] at H
                          have LMc11 := Aside0.mk c11
                          clear c11
                          obtain ⟨y105, hy105⟩ : ∃ y_ : List Int, y_ = (x3_2 ++ [wrap64 ((rd l0 x10_1) - (rd (l0.take (x10_1 : Int).toNat) x19_2))]) := ⟨_, rfl⟩
                          replace H : (echo_delays.l1 k2 l0 y105 (rd l0 x10_1) l0 (l0.length : Int) x10_1 (l0.take (x10_1 : Int).toNat) ((l0.take (x10_1 : Int).toNat).length : Int) (wrap64 (x19_2 + 1))) = some r := by first | (rw [hy105]; with_reducible exact H) | (have H2_ := (Option.bind_some _ _).symm.trans H; rw [hy105]; with_reducible exact H2_) | (have H2_ := (Option.bind_some _ _).symm.trans H; with_reducible exact H2_) | with_reducible exact H | (rw [hy105]; exact H) | exact H
                          have Ny105 := Aside0.mk hy105
                          clear hy105
                          have H' := Aside0.mk H
                          clear H
                          have p104 : 0 ≤ (x19_2 : Int) := of_decide_eq_true (by first | (with_reducible assumption) | assumption)
                          have q104 : x19_2 < ((l0.take (x10_1 : Int).toNat).length : Int) := of_decide_eq_true (by first | (with_reducible assumption) | assumption)
                          obtain ⟨ad104, e104, hx104_0⟩ := Kd.at_int HR103.out x19_2 p104 q104
                          obtain rfl : ad102 = ad104 := (by injection e104)
                          replace hx104_0 := (HB.out.cell (World.block_lt_of_cell? w _ hx104_0)).trans hx104_0
                          replace p104 := eq_true p104
                          replace q104 := eq_true q104
                          go_wp2_with (first | ((with_reducible refine gate_builtin (b := .append) (xs := #[.tmp 23, .tmp 27]) rfl ?_); at_builtin; refine Kd.R_append (Kd.int .i64) (w0 := w) w.heap.size rfl (.tmp 23) (.tmp 27) 22 3 (.int .i64 0) 8 rfl Try.underlying22 info3 rfl (by decide) (by omega) u3 x3_2 (wrap64 ((rd l0 x10_1) - (rd (l0.take (x10_1 : Int).toNat) x19_2))) [.int .i64 (wrap64 ((rd l0 x10_1) - (rd (l0.take (x10_1 : Int).toNat) x19_2)))] (fun _ => True) (fun _ => False) rfl rfl ?aP (fun _ hk => hk.elim) ?aF ?aO ?aB ?aS ?aL ?_; (case aP => exact rfl); (case aB => exact (by repeat (first | (with_reducible first | exact HB.out | apply below_alloc | apply pw_below_drewN | apply below_drew1) | exact HB.out))); (case aF => exact (fun _ _ => trivial)); (case aO => exact (by (with_reducible repeat (first | apply Kd.R_alloc | apply Kd.R_drewN | apply Kd.R_drew)); exact HO_3.out)); (case aS => exact (below_size (by repeat (first | (with_reducible first | exact HB.out | apply below_alloc | apply pw_below_drewN | apply below_drew1) | exact HB.out)))); (case aL => have := LMc11.out; omega); intro v106 w12 ho hb hg hat; rw [← Ny105.out] at ho; have n0_ := Aside0.mk (hb); have n1_ := Aside0.mk (ho); clear HB; clear HO_3; have HB := n0_; have HO107 := n1_; clear n0_ n1_; clear ho hb hg hat))
                          go_roundg k2
                          case measure => have := HK1.out; have := HK2.out; omega
                          case rel => exact ⟨(y105), (wrap64 (x19_2 + 1)), (by first | rfl | (simp; done) | (simp [*]; done)), H', ⟨by have := HK1.out; have := HK2.out; omega⟩, ⟨by (with_reducible repeat (first | apply Kd.R_alloc | apply Kd.R_drewN | apply Kd.R_drew)); exact HO107.out⟩, ⟨by repeat (first | (with_reducible first | exact HB.out | apply below_alloc | apply pw_below_drewN | apply below_drew1) | exact HB.out)⟩⟩
                        · rw [if_neg c11] at H
                          exact absurd H (by simp)
                      · rw [if_neg c10] at H
                        exact absurd H (by simp)
                    · rw [if_neg c9] at H
                      exact absurd H (by simp)
                  · rw [if_neg c8] at H
                    have c8b0 : decide (x19_2 < ((l0.take (x10_1 : Int).toNat).length : Int)) = false := decide_eq_false c8
                    have c8b9 : decide (x19_2 < max x10_1 0) = false := by rw [← HLn.out]; exact c8b0
                    clear c8
                    have H' := Aside0.mk H
                    clear H
                    go_wp2
                    go_roundg k2
                    case measure => have := HK1.out; have := HK2.out; omega
                    case rel => exact ⟨(x3_2), (wrap64 (x10_1 + 1)), (by first | rfl | (simp; done) | (simp [*]; done)), H', ⟨by have := HK1.out; have := HK2.out; omega⟩, ⟨by (with_reducible repeat (first | apply Kd.R_alloc | apply Kd.R_drewN | apply Kd.R_drew)); exact HO_3.out⟩, ⟨by repeat (first | (with_reducible first | exact HB.out | apply below_alloc | apply pw_below_drewN | apply below_drew1) | exact HB.out)⟩⟩
            · rw [if_neg c6] at H
              exact absurd H (by simp)
          · rw [if_neg c4] at H
            exact absurd H (by simp)
        · rw [if_neg c3] at H
          exact absurd H (by simp)
      · rw [if_neg c2] at H
        have c2b0 : decide (x10_1 < (l0.length : Int)) = false := decide_eq_false c2
        clear c2
        replace H := Option.bind_eq_some_iff.mp H
        obtain ⟨t101, A130, H⟩ := H
        replace H : (some t101) = some r := H
        have A13 := Aside0.mk A130
        clear A130
        obtain rfl := Option.some.inj H
        obtain ⟨Ao14, co14, eo14⟩ := Kd.R_slice HO_3.out
        subst eo14
        go_wp2_with (first | ((with_reducible refine gate_callee (f := 71) rfl ?_); refine goesL_ (some 32) rfl rfl Try.func71 (by kernel_rfl) rfl #[.slice Ao14 x3_1.length co14] rfl (by (try simp only [List.map_toArray, List.map_cons, List.map_nil]); first | done | rfl | (simp only [List.length_drop, List.length_take]; rfl)) ?_; (with_reducible refine (slices_Sort_int_int.calls (fun k_ => some k_ = (.slice Ao14 x3_1.length co14 : Value).ownBlock) (.slice Ao14 x3_1.length co14) x3_1 t101 w _ ?side1 ?side2 A13.out).mono ?_); (case side1 => repeat (first | (with_reducible first | exact HB.out | apply below_alloc | apply pw_below_drewN | apply below_drew1) | exact HB.out)); (case side2 => exact Kd.R_tight rfl HO_3.out); rintro e w15 ⟨rfl, hy0, hb, hkp⟩; refine ⟨_, rfl, ?_⟩; have n0_ := Aside0.mk (Kd.R_reok rfl hy0 (fun k_ e_ => HO_3.out.1 k_ e_)); have n1_ := Aside0.mk (hb); clear HO_3; clear HB; have HO_3 := n0_; have HB := n1_; clear n0_ n1_; (try clear hb); (try clear hkp); (try clear hy0)))
        go_ret
        exact ⟨_, by first | rfl | (simp [errW_none, errW_some] <;> rfl) | (simp [*, errW_none, errW_some] <;> rfl), by (with_reducible repeat (first | apply Kd.R_alloc | apply Kd.R_drewN | apply Kd.R_drew)); exact HO_3.out, by repeat (first | (with_reducible first | exact HB.out | apply below_alloc | apply pw_below_drewN | apply below_drew1) | exact HB.out)⟩

end Go.Proofs.Ytlbhedhbakhhlaa.Q

namespace Go.Proofs.Ytlbhedhbakhhlaa.Q
open Go.RowKit Go.Proofs.YtlbhedhbakhhlaaW.PrintWords Go.Proofs.YtlbhedhbakhhlaaW.PrintLast Go.Proofs.YtlbhedhbakhhlaaW.PrintMore
attribute [local go_sem] max2_int min2_int max_two min_two max_three min_three max_four min_four   -- for this text's walks alone
set_option linter.unusedVariables false
set_option linter.unusedSimpArgs false

/-! ### echo_isRuler: function 54 -/
def echo_isRuler.f (k : Nat) (l0 : List Int) : Option (Bool) := (echo_delays.f k l0).bind fun t101 => ((slices_Clone_int_int.f t101).bind fun t104 => ((slices_Compact_int_int.f t104).bind fun t107 => (some ((t107.length : Int) == (t101.length : Int)))))
theorem echo_isRuler.mono : ∀ a0 k, LeO (echo_isRuler.f k a0) (echo_isRuler.f (k + 1) a0) := by
  intro a0 k
  unfold echo_isRuler.f
  repeat' first
      | (with_reducible exact echo_delays.mono _ _)
      | (with_reducible exact LeO.refl _)
      | (with_reducible exact LeO.none _)
      | (with_reducible refine LeO.ite ?_ ?_)
      | (with_reducible refine LeO.bind ?_ (fun _ => ?_))
      | exact echo_delays.mono _ _
      | exact LeO.none _
      | refine LeO.ite ?_ ?_
      | refine LeO.bind ?_ (fun _ => ?_)
set_option maxHeartbeats 8000000 in
set_option maxRecDepth 100000 in
theorem echo_isRuler.calls (k : Nat) (A0 : Option Addr) (c0 : Nat) (l0 : List Int) (r : Bool) (w : World) (hr0 : Kd.C (Kd.int .i64) w A0 l0.length l0) (hc0 : l0.length ≤ c0) (h : echo_isRuler.f k l0 = some r) :
    Calls Try.prog 54 #[.slice A0 l0.length c0] w fun e w' => e = .returned (.bool r) ∧ Below w.heap.size w w' := by
  have HR0 := Aside0.mk hr0
  have HC0 := Aside0.mk hc0
  clear hr0 hc0
  have HB := Aside0.mk (Below.refl w.heap.size w)
  have H : ((echo_delays.f k l0).bind fun t101 => ((slices_Clone_int_int.f t101).bind fun t104 => ((slices_Compact_int_int.f t104).bind fun t107 => (some ((t107.length : Int) == (t101.length : Int)))))) = some r := h
  clear h
  replace H := Option.bind_eq_some_iff.mp H
  obtain ⟨t101, A20, H⟩ := H
  replace H : ((slices_Clone_int_int.f t101).bind fun t104 => ((slices_Compact_int_int.f t104).bind fun t107 => (some ((t107.length : Int) == (t101.length : Int))))) = some r := H
  have A2 := Aside0.mk A20
  clear A20
  replace H := Option.bind_eq_some_iff.mp H
  obtain ⟨t104, A30, H⟩ := H
  replace H : ((slices_Compact_int_int.f t104).bind fun t107 => (some ((t107.length : Int) == (t101.length : Int)))) = some r := H
  have A3 := Aside0.mk A30
  clear A30
  replace H := Option.bind_eq_some_iff.mp H
  obtain ⟨t107, A40, H⟩ := H
  replace H : (some ((t107.length : Int) == (t101.length : Int))) = some r := H
  have A4 := Aside0.mk A40
  clear A40
  obtain rfl := Option.some.inj H
  go_enter Try.func54, Try.ntmps54
  go_wp2_with (first | ((with_reducible refine gate_callee (f := 52) rfl ?_); refine goesL_ (some 5) rfl rfl Try.func52 (by kernel_rfl) rfl #[.slice A0 l0.length c0] rfl (by (try simp only [List.map_toArray, List.map_cons, List.map_nil]); first | done | rfl | (simp only [List.length_drop, List.length_take]; rfl)) ?_; (with_reducible refine (echo_delays.calls k _ _ l0 t101 _ ?side1 ?side2 A2.out).mono ?_); (case side1 => repeat (first | exact HR0.out | (with_reducible refine Kd.C_alloc ?_ _) | (with_reducible refine Kd.C_drewN ?_ _) | (with_reducible refine Kd.C_drew ?_))); (case side2 => exact HC0.out); rintro e w5 ⟨v102, rfl, ho0, hb⟩; refine ⟨_, rfl, ?_⟩; have n0_ := Aside0.mk (Kd.R_lower ho0 (below_size (by repeat (first | (with_reducible first | exact HB.out | apply below_alloc | apply pw_below_drewN | apply below_drew1) | exact HB.out)))); have n1_ := Aside0.mk (below_step (by repeat (first | (with_reducible first | exact HB.out | apply below_alloc | apply pw_below_drewN | apply below_drew1) | exact HB.out)) hb); clear HB; have HO103 := n0_; have HB := n1_; clear n0_ n1_; (try clear hb); (try clear hb2); (try clear hk); (try clear hi); (try clear ho0); obtain ⟨Ao6, co6, eo6⟩ := Kd.R_slice HO103.out; subst eo6) | ((with_reducible refine gate_callee (f := 73) rfl ?_); refine goesL_ (some 7) rfl rfl Try.func73 (by kernel_rfl) rfl #[.slice Ao6 t101.length co6] rfl (by (try simp only [List.map_toArray, List.map_cons, List.map_nil]); first | done | rfl | (simp only [List.length_drop, List.length_take]; rfl)) ?_; (with_reducible refine (slices_Clone_int_int.calls _ _ t101 t104 _ ?side1 ?side2 A3.out).mono ?_); (case side1 => repeat (first | exact (Kd.R_reads' HO103.out).2.2 | (with_reducible refine Kd.C_alloc ?_ _) | (with_reducible refine Kd.C_drewN ?_ _) | (with_reducible refine Kd.C_drew ?_))); (case side2 => exact (Kd.R_reads' HO103.out).2.1); rintro e w7 ⟨v105, rfl, ho0, hb⟩; refine ⟨_, rfl, ?_⟩; have n0_ := Aside0.mk (Kd.R_elder' (by (with_reducible repeat (first | apply Kd.R_alloc | apply Kd.R_drewN | apply Kd.R_drew)); exact HO103.out) (Kd.R_base ho0) hb); have n1_ := Aside0.mk (Kd.R_lower (Kd.R_new' ho0 (Kd.R_lt (by (with_reducible repeat (first | apply Kd.R_alloc | apply Kd.R_drewN | apply Kd.R_drew)); exact HO103.out))) (below_size (by repeat (first | (with_reducible first | exact HB.out | apply below_alloc | apply pw_below_drewN | apply below_drew1) | exact HB.out)))); have n2_ := Aside0.mk (below_step (by repeat (first | (with_reducible first | exact HB.out | apply below_alloc | apply pw_below_drewN | apply below_drew1) | exact HB.out)) hb); clear HO103; clear HB; have HO103 := n0_; have HO106 := n1_; have HB := n2_; clear n0_ n1_ n2_; (try clear hb); (try clear hb2); (try clear hk); (try clear hi); (try clear ho0); obtain ⟨Ao8, co8, eo8⟩ := Kd.R_slice HO106.out; subst eo8) | ((with_reducible refine gate_callee (f := 83) rfl ?_); refine goesL_ (some 8) rfl rfl Try.func83 (by kernel_rfl) rfl #[.slice Ao8 t104.length co8] rfl (by (try simp only [List.map_toArray, List.map_cons, List.map_nil]); first | done | rfl | (simp only [List.length_drop, List.length_take]; rfl)) ?_; (with_reducible refine (slices_Compact_int_int.calls (fun k_ => some k_ = (.slice Ao8 t104.length co8 : Value).ownBlock) (.slice Ao8 t104.length co8) t104 t107 w _ ?side1 ?side2 A4.out).mono ?_); (case side1 => repeat (first | (with_reducible first | exact HB.out | apply below_alloc | apply pw_below_drewN | apply below_drew1) | exact HB.out)); (case side2 => exact Kd.R_tight rfl HO106.out); rintro e w9 ⟨v108, rfl, ho0, hb, hkp⟩; refine ⟨_, rfl, ?_⟩; have n0_ := Aside0.mk (Kd.R_mono (ok' := fun k_ => some k_ ≠ (v108 : Value).ownBlock) (Kd.R_keptB (HO103.out) hkp (fun k_ hk_ hs_ => (hk_.2) hs_)) (fun k_ hk_ => fun e_ => Or.elim (ho0.1 k_ e_.symm) (fun hs_ => hk_.2.1 hs_) (fun hn_ => Nat.not_le.2 hk_.2.2 hn_))); have n1_ := Aside0.mk (Kd.R_mono (ok' := fun k_ => some k_ ≠ (.slice Ao6 t101.length co6 : Value).ownBlock) ho0 (fun k_ hk_ => Or.elim hk_ (fun hs_ => fun e_ => (((HO103.out).1 k_ e_.symm).2) hs_) (fun hn_ => (Kd.fresh' (Kd.R_lt (by (with_reducible repeat (first | apply Kd.R_alloc | apply Kd.R_drewN | apply Kd.R_drew)); exact HO103.out)) k_ hn_)))); have n2_ := Aside0.mk (hb); clear HO103; clear HB; clear HO106; have HO103 := n0_; have HO109 := n1_; have HB := n2_; clear n0_ n1_ n2_; (try clear hb); (try clear hkp); (try clear ho0); obtain ⟨Ao10, co10, eo10⟩ := Kd.R_slice HO109.out; subst eo10))
  go_ret
  exact ⟨by first | rfl | (simp [errW_none, errW_some] <;> rfl) | (simp [*, errW_none, errW_some] <;> rfl), by repeat (first | (with_reducible first | exact HB.out | apply below_alloc | apply pw_below_drewN | apply below_drew1) | exact HB.out)⟩

end Go.Proofs.Ytlbhedhbakhhlaa.Q

namespace Go.Proofs.Ytlbhedhbakhhlaa.Q
open Go.RowKit Go.Proofs.YtlbhedhbakhhlaaW.PrintWords Go.Proofs.YtlbhedhbakhhlaaW.PrintLast Go.Proofs.YtlbhedhbakhhlaaW.PrintMore
attribute [local go_sem] max2_int min2_int max_two min_two max_three min_three max_four min_four   -- for this text's walks alone
set_option linter.unusedVariables false
set_option linter.unusedSimpArgs false

/-! ### echo_Delays: function 17 -/
def echo_Delays.f (k : Nat) (l0 : List Int) : Option (List Int × Int) := (echo_Validate.f k l0).bind fun t101 => (if t101 = 0 then ((echo_delays.f k l0).bind fun t102 => (some (t102, 0))) else (some (([] : List Int), t101)))
theorem echo_Delays.mono : ∀ a0 k, LeO (echo_Delays.f k a0) (echo_Delays.f (k + 1) a0) := by
  intro a0 k
  unfold echo_Delays.f
  repeat' first
      | (with_reducible exact echo_Validate.mono _ _)
      | (with_reducible exact echo_delays.mono _ _)
      | (with_reducible exact LeO.refl _)
      | (with_reducible exact LeO.none _)
      | (with_reducible refine LeO.ite ?_ ?_)
      | (with_reducible refine LeO.bind ?_ (fun _ => ?_))
      | exact echo_Validate.mono _ _
      | exact echo_delays.mono _ _
      | exact LeO.none _
      | refine LeO.ite ?_ ?_
      | refine LeO.bind ?_ (fun _ => ?_)
set_option maxHeartbeats 8000000 in
set_option maxRecDepth 100000 in
theorem echo_Delays.calls (k : Nat) (A0 : Option Addr) (c0 : Nat) (l0 : List Int) (r1 : List Int) (r2 : Int) (w : World) (hr0 : Kd.C (Kd.int .i64) w A0 l0.length l0) (hc0 : l0.length ≤ c0) (h : echo_Delays.f k l0 = some (r1, r2)) :
    Calls Try.prog 17 #[.slice A0 l0.length c0] w fun e w' => ∃ v0_ : Value, e = .returned (.tuple #[v0_, .int .i64 r2]) ∧ Kd.R (Kd.int .i64) 3 w' w.heap.size (fun _ => True) v0_ r1 ∧ Below w.heap.size w w' := by
  have HR0 := Aside0.mk hr0
  have HC0 := Aside0.mk hc0
  clear hr0 hc0
  have HB := Aside0.mk (Below.refl w.heap.size w)
  have H : ((echo_Validate.f k l0).bind fun t101 => (if t101 = 0 then ((echo_delays.f k l0).bind fun t102 => (some (t102, 0))) else (some (([] : List Int), t101)))) = some (r1, r2) := h
  clear h
  replace H := Option.bind_eq_some_iff.mp H
  obtain ⟨t101, A20, H⟩ := H
  replace H : (if t101 = 0 then ((echo_delays.f k l0).bind fun t102 => (some (t102, 0))) else (some (([] : List Int), t101))) = some (r1, r2) := H
  have A2 := Aside0.mk A20
  clear A20
  by_cases c3 : t101 = 0
  · rw [if_pos c3] at H
    have c3b0 : (t101 == 0) = true := beq_iff_eq.mpr c3
    have c3b1 : (t101 != 0) = false := bne_eq_false_iff_eq.mpr c3
    clear c3
    replace H := Option.bind_eq_some_iff.mp H
    obtain ⟨t102, A40, H⟩ := H
    replace H : (some (t102, 0)) = some (r1, r2) := H
    have A4 := Aside0.mk A40
    clear A40
    simp only [Option.some.injEq, Prod.mk.injEq] at H
    obtain ⟨rfl, rfl⟩ := H
    go_enter Try.func17, Try.ntmps17
    go_wp2_with (first | ((with_reducible refine gate_callee (f := 21) rfl ?_); refine goesL_ (some 6) rfl rfl Try.func21 (by kernel_rfl) rfl #[.slice A0 l0.length c0] rfl (by (try simp only [List.map_toArray, List.map_cons, List.map_nil]); first | done | rfl | (simp only [List.length_drop, List.length_take]; rfl)) ?_; (with_reducible refine (echo_Validate.calls k _ _ l0 t101 _ ?side1 ?side2 A2.out).mono ?_); (case side1 => repeat (first | exact HR0.out | (with_reducible refine Kd.C_alloc ?_ _) | (with_reducible refine Kd.C_drewN ?_ _) | (with_reducible refine Kd.C_drew ?_))); (case side2 => exact HC0.out); rintro e w' ⟨rfl, ⟨nd, rfl⟩⟩; refine ⟨_, rfl, ?_⟩) | ((with_reducible refine gate_callee (f := 52) rfl ?_); refine goesL_ (some 11) rfl rfl Try.func52 (by kernel_rfl) rfl #[.slice A0 l0.length c0] rfl (by (try simp only [List.map_toArray, List.map_cons, List.map_nil]); first | done | rfl | (simp only [List.length_drop, List.length_take]; rfl)) ?_; (with_reducible refine (echo_delays.calls k _ _ l0 t102 _ ?side1 ?side2 A4.out).mono ?_); (case side1 => repeat (first | exact HR0.out | (with_reducible refine Kd.C_alloc ?_ _) | (with_reducible refine Kd.C_drewN ?_ _) | (with_reducible refine Kd.C_drew ?_))); (case side2 => exact HC0.out); rintro e w5 ⟨v103, rfl, ho0, hb⟩; refine ⟨_, rfl, ?_⟩; have n0_ := Aside0.mk (Kd.R_lower ho0 (below_size (by repeat (first | (with_reducible first | exact HB.out | apply below_alloc | apply pw_below_drewN | apply below_drew1) | exact HB.out)))); have n1_ := Aside0.mk (below_step (by repeat (first | (with_reducible first | exact HB.out | apply below_alloc | apply pw_below_drewN | apply below_drew1) | exact HB.out)) hb); clear HB; have HO104 := n0_; have HB := n1_; clear n0_ n1_; (try clear hb); (try clear hb2); (try clear hk); (try clear hi); (try clear ho0)))
    go_ret2
    exact ⟨_, by first | rfl | (simp [errW_none, errW_some] <;> rfl) | (simp [*, errW_none, errW_some] <;> rfl), by (with_reducible repeat (first | apply Kd.R_alloc | apply Kd.R_drewN | apply Kd.R_drew)); exact HO104.out, by repeat (first | (with_reducible first | exact HB.out | apply below_alloc | apply pw_below_drewN | apply below_drew1) | exact HB.out)⟩
  · rw [if_neg c3] at H
    have c3b0 : (t101 == 0) = false := beq_eq_false_iff_ne.mpr c3
    have c3b1 : (t101 != 0) = true := bne_iff_ne.mpr c3
    simp only [Option.some.injEq, Prod.mk.injEq] at H
    obtain ⟨rfl, rfl⟩ := H
    go_enter Try.func17, Try.ntmps17
    go_wp2_with (first | ((with_reducible refine gate_callee (f := 21) rfl ?_); refine goesL_ (some 6) rfl rfl Try.func21 (by kernel_rfl) rfl #[.slice A0 l0.length c0] rfl (by (try simp only [List.map_toArray, List.map_cons, List.map_nil]); first | done | rfl | (simp only [List.length_drop, List.length_take]; rfl)) ?_; (with_reducible refine (echo_Validate.calls k _ _ l0 t101 _ ?side1 ?side2 A2.out).mono ?_); (case side1 => repeat (first | exact HR0.out | (with_reducible refine Kd.C_alloc ?_ _) | (with_reducible refine Kd.C_drewN ?_ _) | (with_reducible refine Kd.C_drew ?_))); (case side2 => exact HC0.out); rintro e w' ⟨rfl, ⟨nd, rfl⟩⟩; refine ⟨_, rfl, ?_⟩))
    go_ret2
    exact ⟨_, by first | rfl | (simp [errW_none, errW_some] <;> rfl) | (simp [*, errW_none, errW_some] <;> rfl), by first | exact Kd.R_nil _ _ _ _ _ | exact Kd.N_nil _ _ _ _ _ | exact Kd.V_nil _ _ _ _ _ | exact Kd.Q_nil _ _ _ _ _ | exact Kd.S_nil _ _ _ _ _, by repeat (first | (with_reducible first | exact HB.out | apply below_alloc | apply pw_below_drewN | apply below_drew1) | exact HB.out)⟩

end Go.Proofs.Ytlbhedhbakhhlaa.Q

namespace Go.Proofs.Ytlbhedhbakhhlaa.Q
open Go.RowKit Go.Proofs.YtlbhedhbakhhlaaW.PrintWords Go.Proofs.YtlbhedhbakhhlaaW.PrintLast Go.Proofs.YtlbhedhbakhhlaaW.PrintMore
attribute [local go_sem] max2_int min2_int max_two min_two max_three min_three max_four min_four   -- for this text's walks alone
set_option linter.unusedVariables false
set_option linter.unusedSimpArgs false

/-! ### echo_Normal: function 26 -/
def echo_Normal.f (k : Nat) (l0 : List Int) : Option (List Int × Int) := (echo_Validate.f k l0).bind fun t101 => (if t101 = 0 then ((echo_normal.f k l0).bind fun t102 => (some (t102, 0))) else (some (([] : List Int), t101)))
theorem echo_Normal.mono : ∀ a0 k, LeO (echo_Normal.f k a0) (echo_Normal.f (k + 1) a0) := by
  intro a0 k
  unfold echo_Normal.f
  repeat' first
      | (with_reducible exact echo_Validate.mono _ _)
      | (with_reducible exact echo_normal.mono _ _)
      | (with_reducible exact LeO.refl _)
      | (with_reducible exact LeO.none _)
      | (with_reducible refine LeO.ite ?_ ?_)
      | (with_reducible refine LeO.bind ?_ (fun _ => ?_))
      | exact echo_Validate.mono _ _
      | exact echo_normal.mono _ _
      | exact LeO.none _
      | refine LeO.ite ?_ ?_
      | refine LeO.bind ?_ (fun _ => ?_)
set_option maxHeartbeats 8000000 in
set_option maxRecDepth 100000 in
theorem echo_Normal.calls (k : Nat) (A0 : Option Addr) (c0 : Nat) (l0 : List Int) (r1 : List Int) (r2 : Int) (w : World) (hr0 : Kd.C (Kd.int .i64) w A0 l0.length l0) (hc0 : l0.length ≤ c0) (h : echo_Normal.f k l0 = some (r1, r2)) :
    Calls Try.prog 26 #[.slice A0 l0.length c0] w fun e w' => ∃ v0_ : Value, e = .returned (.tuple #[v0_, .int .i64 r2]) ∧ Kd.R (Kd.int .i64) 3 w' w.heap.size (fun _ => True) v0_ r1 ∧ Below w.heap.size w w' := by
  have HR0 := Aside0.mk hr0
  have HC0 := Aside0.mk hc0
  clear hr0 hc0
  have HB := Aside0.mk (Below.refl w.heap.size w)
  have H : ((echo_Validate.f k l0).bind fun t101 => (if t101 = 0 then ((echo_normal.f k l0).bind fun t102 => (some (t102, 0))) else (some (([] : List Int), t101)))) = some (r1, r2) := h
  clear h
  replace H := Option.bind_eq_some_iff.mp H
  obtain ⟨t101, A20, H⟩ := H
  replace H : (if t101 = 0 then ((echo_normal.f k l0).bind fun t102 => (some (t102, 0))) else (some (([] : List Int), t101))) = some (r1, r2) := H
  have A2 := Aside0.mk A20
  clear A20
  by_cases c3 : t101 = 0
  · rw [if_pos c3] at H
    have c3b0 : (t101 == 0) = true := beq_iff_eq.mpr c3
    have c3b1 : (t101 != 0) = false := bne_eq_false_iff_eq.mpr c3
    clear c3
    replace H := Option.bind_eq_some_iff.mp H
    obtain ⟨t102, A40, H⟩ := H
    replace H : (some (t102, 0)) = some (r1, r2) := H
    have A4 := Aside0.mk A40
    clear A40
    simp only [Option.some.injEq, Prod.mk.injEq] at H
    obtain ⟨rfl, rfl⟩ := H
    go_enter Try.func26, Try.ntmps26
    go_wp2_with (first | ((with_reducible refine gate_callee (f := 21) rfl ?_); refine goesL_ (some 6) rfl rfl Try.func21 (by kernel_rfl) rfl #[.slice A0 l0.length c0] rfl (by (try simp only [List.map_toArray, List.map_cons, List.map_nil]); first | done | rfl | (simp only [List.length_drop, List.length_take]; rfl)) ?_; (with_reducible refine (echo_Validate.calls k _ _ l0 t101 _ ?side1 ?side2 A2.out).mono ?_); (case side1 => repeat (first | exact HR0.out | (with_reducible refine Kd.C_alloc ?_ _) | (with_reducible refine Kd.C_drewN ?_ _) | (with_reducible refine Kd.C_drew ?_))); (case side2 => exact HC0.out); rintro e w' ⟨rfl, ⟨nd, rfl⟩⟩; refine ⟨_, rfl, ?_⟩) | ((with_reducible refine gate_callee (f := 61) rfl ?_); refine goesL_ (some 11) rfl rfl Try.func61 (by kernel_rfl) rfl #[.slice A0 l0.length c0] rfl (by (try simp only [List.map_toArray, List.map_cons, List.map_nil]); first | done | rfl | (simp only [List.length_drop, List.length_take]; rfl)) ?_; (with_reducible refine (echo_normal.calls k _ _ l0 t102 _ ?side1 ?side2 A4.out).mono ?_); (case side1 => repeat (first | exact HR0.out | (with_reducible refine Kd.C_alloc ?_ _) | (with_reducible refine Kd.C_drewN ?_ _) | (with_reducible refine Kd.C_drew ?_))); (case side2 => exact HC0.out); rintro e w5 ⟨v103, rfl, ho0, hb⟩; refine ⟨_, rfl, ?_⟩; have n0_ := Aside0.mk (Kd.R_lower ho0 (below_size (by repeat (first | (with_reducible first | exact HB.out | apply below_alloc | apply pw_below_drewN | apply below_drew1) | exact HB.out)))); have n1_ := Aside0.mk (below_step (by repeat (first | (with_reducible first | exact HB.out | apply below_alloc | apply pw_below_drewN | apply below_drew1) | exact HB.out)) hb); clear HB; have HO104 := n0_; have HB := n1_; clear n0_ n1_; (try clear hb); (try clear hb2); (try clear hk); (try clear hi); (try clear ho0)))
    go_ret2
    exact ⟨_, by first | rfl | (simp [errW_none, errW_some] <;> rfl) | (simp [*, errW_none, errW_some] <;> rfl), by (with_reducible repeat (first | apply Kd.R_alloc | apply Kd.R_drewN | apply Kd.R_drew)); exact HO104.out, by repeat (first | (with_reducible first | exact HB.out | apply below_alloc | apply pw_below_drewN | apply below_drew1) | exact HB.out)⟩
  · rw [if_neg c3] at H
    have c3b0 : (t101 == 0) = false := beq_eq_false_iff_ne.mpr c3
    have c3b1 : (t101 != 0) = true := bne_iff_ne.mpr c3
    simp only [Option.some.injEq, Prod.mk.injEq] at H
    obtain ⟨rfl, rfl⟩ := H
    go_enter Try.func26, Try.ntmps26
    go_wp2_with (first | ((with_reducible refine gate_callee (f := 21) rfl ?_); refine goesL_ (some 6) rfl rfl Try.func21 (by kernel_rfl) rfl #[.slice A0 l0.length c0] rfl (by (try simp only [List.map_toArray, List.map_cons, List.map_nil]); first | done | rfl | (simp only [List.length_drop, List.length_take]; rfl)) ?_; (with_reducible refine (echo_Validate.calls k _ _ l0 t101 _ ?side1 ?side2 A2.out).mono ?_); (case side1 => repeat (first | exact HR0.out | (with_reducible refine Kd.C_alloc ?_ _) | (with_reducible refine Kd.C_drewN ?_ _) | (with_reducible refine Kd.C_drew ?_))); (case side2 => exact HC0.out); rintro e w' ⟨rfl, ⟨nd, rfl⟩⟩; refine ⟨_, rfl, ?_⟩))
    go_ret2
    exact ⟨_, by first | rfl | (simp [errW_none, errW_some] <;> rfl) | (simp [*, errW_none, errW_some] <;> rfl), by first | exact Kd.R_nil _ _ _ _ _ | exact Kd.N_nil _ _ _ _ _ | exact Kd.V_nil _ _ _ _ _ | exact Kd.Q_nil _ _ _ _ _ | exact Kd.S_nil _ _ _ _ _, by repeat (first | (with_reducible first | exact HB.out | apply below_alloc | apply pw_below_drewN | apply below_drew1) | exact HB.out)⟩

end Go.Proofs.Ytlbhedhbakhhlaa.Q

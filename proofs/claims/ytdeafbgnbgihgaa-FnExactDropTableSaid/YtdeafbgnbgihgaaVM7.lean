/- The abstract machine, seventh part: the quiet operations together; what a call of a function promises. Leans on no program. -/
import Derived.Test.YtdeafbgnbgihgaaVM6
set_option linter.unusedSimpArgs false
set_option linter.unusedVariables false
namespace Go.Proofs.Ytdeafbgnbgihgaa
open Go.RowKit

section
variable {P : Program} {tt : TT} {w : World} {M : MM} {h : List Blk} {K : V → Prop} {B : Nat} {e : Env} {a : Act}

theorem evs_repK (hE : ∀ k, rep w M h (gt e k) (a.tmps.getD k Go.undef)) : ∀ (xs : List Operand), (∀ x ∈ xs, cOK x = true) → capsOK (evs e xs) = true → repK w M h (evs e xs) (xs.map a.eval)
  | [], _, _ => rfl
  | x :: xs, hc, ho => by
    simp only [evs, capsOK, Bool.and_eq_true, Bool.not_eq_true'] at ho
    have h1 := rep1_of_rep ho.1.1 (ev_rep hE x (hc x (by simp)))
    unfold rep1 at h1
    rw [if_neg (by rw [ho.1.2]; simp)] at h1
    exact ⟨a.eval x, xs.map a.eval, rfl, h1, evs_repK hE xs (fun y hy => hc y (by simp [hy])) ho.2⟩
theorem repT_get : ∀ (vs : List V) (cs : List Value) (i : Nat) (v : V), repT w M h vs cs → vs[i]? = some v → ∃ c, cs[i]? = some c ∧ rep1 w M h v c
  | [], cs, i, v, _, hi => by simp at hi
  | u :: vs, cs, 0, v, H, hi => by
    obtain ⟨c, cs', rfl, h1, h2⟩ := H
    simp at hi
    subst hi
    exact ⟨c, rfl, h1⟩
  | u :: vs, cs, i + 1, v, H, hi => by
    obtain ⟨c, cs', rfl, h1, h2⟩ := H
    obtain ⟨c', k1, k2⟩ := repT_get vs cs' i v h2 (by simpa using hi)
    exact ⟨c', by simpa using k1, k2⟩

theorem mx_sound {mx : Bool} {x y : V} {cx cy : Value} {ts : Array TypeId} {ty : TypeId} (hx : rep w M h x cx) (hy : rep w M h y cy) (H : mxV mx x y K) :
    ∃ v cv, K v ∧ rep w M h v cv ∧ ∀ w' : World, ((if mx = true then Builtin.max_ ts ty #[cx, cy] else Builtin.min_ ts ty #[cx, cy]) : Sem Value).run P w' = .ok cv w' := by
  unfold mxV at H
  split at H
  · rename_i k a k' b
    obtain ⟨rfl, ra⟩ := rep_int.1 hx
    obtain ⟨rfl, rb⟩ := rep_int.1 hy
    cases hk : k == k' with
    | false => rw [hk] at H; exact H.elim
    | true =>
      have hk' : k = k' := by revert hk; cases k <;> cases k' <;> decide
      subst hk'
      rw [hk] at H
      cases mx with
      | true =>
        refine ⟨_, _, H, rep_int.2 ⟨rfl, ?_⟩, fun w' => ?_⟩
        · rw [Int.max_def]; split <;> assumption
        · simp only [if_true, run_max_int2]
          congr 2
          rw [Int.max_def]; split <;> split <;> omega
      | false =>
        refine ⟨_, _, H, rep_int.2 ⟨rfl, ?_⟩, fun w' => ?_⟩
        · rw [Int.min_def]; split <;> assumption
        · simp only [Bool.false_eq_true, if_false, run_min_int2]
          congr 2
          rw [Int.min_def]; split <;> split <;> omega
  · exact H.elim
theorem quiet_sound (hT : TOk P tt) (hI : MInv B w M h) (hE : ∀ k, rep w M h (gt e k) (a.tmps.getD k Go.undef)) {o : Oper} (hc : ∀ x ∈ o.op.operands, cOK x = true)
    (H : quietV tt o e h K) : QOut P o a w M h K := by
  have hev : ∀ x ∈ o.op.operands, rep w M h (ev e x) (a.eval x) := fun x hx => ev_rep hE x (hc x hx)
  obtain ⟨dst, op, type, pos, after, guard⟩ := o
  dsimp only at hc hev
  unfold quietV at H
  cases op with
  | move x => exact ⟨_, _, H, hev x (by simp [Op.operands]), fun w' _ => rfl⟩
  | assign x => exact ⟨_, _, H, hev x (by simp [Op.operands]), fun w' _ => rfl⟩
  | pick c x y =>
    dsimp only at H
    have hcv := hev c (by simp [Op.operands])
    split at H
    · rename_i q hq
      rw [hq] at hcv
      have hb := rep_bool.1 hcv
      refine H.elim (fun hq H => ⟨_, _, H, hev x (by simp [Op.operands]), fun w' _ => ?_⟩) (fun hq H => ⟨_, _, H, hev y (by simp [Op.operands]), fun w' _ => ?_⟩)
      · simp [execOp, hb, asBool, hq]
      · simp [execOp, hb, asBool, hq]
    · exact H.elim
  | load t x =>
    obtain ⟨u, cu, h1, h2, h3⟩ := load_sound hT hI (hev x (by simp [Op.operands])) H
    refine ⟨u, cu, h1, h2, fun w' hw => ?_⟩
    have hx : Ext w w' := by
      rcases hw with hw | hw
      · cases hw
      · exact hw
    simp [execOp, h3 w' hx]
  | nilCheck x =>
    dsimp only at H
    have hx := hev x (by simp [Op.operands])
    split at H
    · rename_i b p o hq
      rw [hq] at hx
      have H0 := BL H; clear H; obtain ⟨hlo, H⟩ := H0
      obtain ⟨g, F, hM, e1⟩ := rep_pB.1 hx
      rw [pbv_lo hlo] at e1
      exact ⟨_, _, H, hx, fun w' _ => by simp [execOp, e1]⟩
    · rename_i b i p o hq
      rw [hq] at hx
      obtain ⟨g, F, hM, e1⟩ := rep_pL.1 hx
      exact ⟨_, _, H, hx, fun w' _ => by simp [execOp, e1]⟩
    · rename_i y hq
      rw [hq] at hx
      obtain ⟨b, o, ces, e1, _⟩ := rep_pX.1 hx
      exact ⟨_, _, H, hx, fun w' _ => by simp [execOp, e1]⟩
    · exact H.elim
  | fieldAddr s x f =>
    obtain ⟨u, cu, h1, h2, h3⟩ := field_sound hT (hev x (by simp [Op.operands])) H
    exact ⟨u, cu, h1, h2, fun w' _ => by simp [execOp, h3 w']⟩
  | indexAddr t x i =>
    obtain ⟨u, cu, h1, h2, h3⟩ := index_sound hT (hev x (by simp [Op.operands])) (hev i (by simp [Op.operands])) H
    exact ⟨u, cu, h1, h2, fun w' _ => by simp [execOp, h3 w']⟩
  | index t x i =>
    obtain ⟨u, cu, h1, h2, h3⟩ := char_sound (P := P) hT (hev x (by simp [Op.operands])) (hev i (by simp [Op.operands])) H
    exact ⟨u, cu, h1, h2, fun w' _ => by simp [execOp, h3 w']⟩
  | slice t x lo hi mx =>
    cases mx with
    | some m => exact H.elim
    | none =>
      obtain ⟨u, cu, h1, h2, h3⟩ := slice_sound (clo := lo.map a.eval) (chi := hi.map a.eval) hT hI (hev x (by simp [Op.operands]))
        (by cases lo with
          | none => trivial
          | some l => exact hev l (by simp [Op.operands]))
        (by cases hi with
          | none => trivial
          | some l => exact hev l (by simp [Op.operands])) H
      exact ⟨u, cu, h1, h2, fun w' _ => by simp [execOp, h3 w']⟩
  | binOp op t x y yt =>
    obtain ⟨u, cu, h1, h2, h3⟩ := bin_sound (P := P) hT (hev x (by simp [Op.operands])) (hev y (by simp [Op.operands])) H
    refine ⟨u, cu, h1, h2, fun w' _ => ?_⟩
    have := h3 x y w'
    rw [Sem.run_bind] at this
    simp only [execOp, Sem.run_bind, Sem.run_pure]
    revert this
    cases (eqGuard op t x y (a.eval x) (a.eval y)).run P w' with
    | ok u w2 =>
      intro h
      simp only [Result.andThen_ok] at h ⊢
      rw [h]
      rfl
    | halt q w2 => intro h; cases h
  | unOp op t x =>
    obtain ⟨u, cu, h1, h2, h3⟩ := un_sound (P := P) (hev x (by simp [Op.operands])) H
    exact ⟨u, cu, h1, h2, fun w' _ => by simp [execOp, h3 w']⟩
  | convert s d x =>
    dsimp only at H
    split at H
    · rename_i u sz by' zr eq0 hi
      obtain ⟨f, d', z, _, _, _, _, h5, h6, _⟩ := (hT s _ hi).ex
      cases d' <;> first
        | exact (h6 : False).elim
        | skip
      cases (h6 : _ = u)
      split at H
      · rename_i hd hu
        obtain ⟨fd, dd, zd, _, _, _, _, d5, d6, _⟩ := (hT d _ hd).ex
        cases dd <;> first
          | exact (d6 : False).elim
          | skip
        obtain ⟨fu, du, zu, _, _, _, _, u5, u6, _⟩ := (hT _ _ hu).ex
        cases du <;> first
          | exact (u6 : False).elim
          | skip
        cases (u6 : _ = IntKind.u8)
        obtain ⟨r, h1, h2, h3⟩ := bytes_sound hI h5 u5 d5 (hev x (by simp [Op.operands])) H
        refine ⟨_, _, h1, rep_str.2 ⟨rfl, h2⟩, fun w' hw => ?_⟩
        have hx : Ext w w' := by
          rcases hw with hw | hw
          · cases hw
          · exact hw
        simp [execOp, h3 w' hx]
      · exact H.elim
    · rename_i i hni hi
      obtain ⟨f, d', z, _, _, _, _, h5, _⟩ := (hT s i hi).ex
      obtain ⟨u, cu, h1, h2, h3⟩ := conv_sound (P := P) hT (s := s) (by rw [h5]; rfl) (hev x (by simp [Op.operands])) H
      exact ⟨u, cu, h1, h2, fun w' _ => by simp [execOp, h3 w']⟩
    · exact H.elim
  | extract x i =>
    dsimp only at H
    have hx := hev x (by simp [Op.operands])
    split at H
    · rename_i vs hq
      rw [hq] at hx
      split at H
      · rename_i v hv
        obtain ⟨cvs, e1, h1⟩ := rep_tup.1 hx
        obtain ⟨c, k1, k2⟩ := repT_get vs cvs i v h1 hv
        exact ⟨v, c, H, rep_of_rep1 k2, fun w' _ => by simp [execOp, e1, Instr.extract, k1]⟩
      · exact H.elim
    · exact H.elim
  | lookup t x i ok =>
    obtain ⟨u, cu, h1, h2, h3⟩ := lk_sound hT hI (hev x (by simp [Op.operands])) (hev i (by simp [Op.operands])) H
    refine ⟨u, cu, h1, h2, fun w' hw => ?_⟩
    have hx : Ext w w' := by
      rcases hw with hw | hw
      · cases hw
      · exact hw
    simp [execOp, h3 w' hx]
  | makeFunc f first caps =>
    obtain ⟨first⟩ := first
    obtain ⟨caps⟩ := caps
    cases first with
    | cons _ _ => exact H.elim
    | nil =>
      dsimp only at H
      cases hq : capsOK (evs e caps) with
      | false => rw [hq] at H; exact H.elim
      | true =>
        rw [hq] at H
        refine ⟨_, _, H, rep_fn.2 ⟨caps.map a.eval, rfl, evs_repK hE caps (fun x hx => hc x (by simp [Op.operands, hx])) hq⟩, fun w' _ => ?_⟩
        simp [execOp, Instr.makeFunc]
  | call c =>
    obtain ⟨callee, args, ats⟩ := c
    cases callee with
    | value f => exact H.elim
    | invoke f => exact H.elim
    | builtin b =>
      obtain ⟨args⟩ := args
      obtain ⟨ats⟩ := ats
      dsimp only at H
      cases b with
      | len =>
        rcases args with _ | ⟨x, _ | ⟨y, ys⟩⟩ <;> first
          | exact H.elim
          | skip
        rcases ats with _ | ⟨t, ts⟩ <;> first
          | exact H.elim
          | skip
        obtain ⟨u, cu, h1, h2, h3⟩ := len_sound (P := P) (rest := ts) (ty := type) hT (hev x (by simp [Op.operands, Call.operands])) H
        refine ⟨u, cu, h1, h2, fun w' _ => ?_⟩
        have := h3 w'
        simp [execOp, resolve, invoke, builtin, this]
      | cap =>
        rcases args with _ | ⟨x, _ | ⟨y, ys⟩⟩ <;> first
          | exact H.elim
          | skip
        rcases ats with _ | ⟨t, ts⟩ <;> first
          | exact H.elim
          | skip
        obtain ⟨u, cu, h1, h2, h3⟩ := cap_sound (P := P) (rest := ts) (ty := type) hT (hev x (by simp [Op.operands, Call.operands])) H
        refine ⟨u, cu, h1, h2, fun w' _ => ?_⟩
        have := h3 w'
        simp [execOp, resolve, invoke, builtin, this]
      | max =>
        rcases args with _ | ⟨x, _ | ⟨y, _ | ⟨z, zs⟩⟩⟩ <;> first
          | exact H.elim
          | skip
        obtain ⟨u, cu, h1, h2, h3⟩ := mx_sound (P := P) (ts := ⟨ats⟩) (ty := type) (hev x (by simp [Op.operands, Call.operands])) (hev y (by simp [Op.operands, Call.operands])) H
        refine ⟨u, cu, h1, h2, fun w' _ => ?_⟩
        have := h3 w'
        simp only [if_true] at this
        simp [execOp, resolve, invoke, builtin, this]
      | min =>
        rcases args with _ | ⟨x, _ | ⟨y, _ | ⟨z, zs⟩⟩⟩ <;> first
          | exact H.elim
          | skip
        obtain ⟨u, cu, h1, h2, h3⟩ := mx_sound (P := P) (ts := ⟨ats⟩) (ty := type) (hev x (by simp [Op.operands, Call.operands])) (hev y (by simp [Op.operands, Call.operands])) H
        refine ⟨u, cu, h1, h2, fun w' _ => ?_⟩
        have := h3 w'
        simp only [Bool.false_eq_true, if_false] at this
        simp [execOp, resolve, invoke, builtin, this]
      | _ => exact H.elim
  | _ => exact H.elim
end
end Go.Proofs.Ytdeafbgnbgihgaa

/- The abstract machine, fifteenth part: what a function returns; from its code to its contract. Leans on no program. -/
import Derived.Test.YtdeafbgnbgihgaaVM14
set_option linter.unusedSimpArgs false
set_option linter.unusedVariables false
namespace Go.Proofs.Ytdeafbgnbgihgaa
open Go.RowKit

/-! ### the result's blocks under new numbers -/
def rnB (h : List Blk) : List (Option Nat) → List Blk → Prop
  | [], [] => True
  | some b :: ρ, k :: bs => b ≠ 0 ∧ h[b]? = some k ∧ (match k with | .arr _ _ _ => True | _ => False) ∧ rnB h ρ bs
  | none :: ρ, .arr _ xs _ :: bs => xs = [] ∧ rnB h ρ bs
  | _, _ => False
def rnO (ρ : List (Option Nat)) (va : V) (j o l : Nat) : Prop :=
  match ρ[j - 1]? with
  | some (some b) => j ≠ 0 ∧ va = .own b o l
  | some none => j ≠ 0 ∧ va = .nils ∧ o = 0 ∧ l = 0
  | none => False
mutual
def rnV (h : List Blk) (ρ : List (Option Nat)) : V → V → Prop
  | va, .own j o l => rnO ρ va j o l
  | va, .d y => va.ext = true ∧ borD h va y
  | va, .st gs => ∃ fs, va = .st fs ∧ rnVs h ρ fs gs
  | va, .nils => va = .nils
  | va, .nilp => va = .nilp
  | va, .pX x => va = .pX x
  | va, .top => (match va with
    | .own _ _ _ => True
    | .nils => True
    | _ => False)
  | _, .undef => False
  | _, .pB _ _ _ => False
  | _, .pL _ _ _ _ => False
  | _, .fn _ _ => False
  | _, .tup _ => False
def rnVs (h : List Blk) (ρ : List (Option Nat)) : List V → List V → Prop
  | fs, [] => fs = []
  | fs, g :: gs => ∃ f fs', fs = f :: fs' ∧ rnV h ρ f g ∧ rnVs h ρ fs' gs
end
def rnT (h : List Blk) (ρ : List (Option Nat)) : V → V → Prop
  | va, .tup gs => ∃ fs, va = .tup fs ∧ okTs fs = true ∧ rnVs h ρ fs gs
  | va, v => va.okc = true ∧ rnV h ρ va v
structure RetOK (h : List Blk) (va v : V) (bs : List Blk) : Prop where
  ex : ∃ ρ : List (Option Nat), rnB h ρ bs ∧ (ρ.filterMap id).Nodup ∧ rnT h ρ va v

def pick (M : MM) : List (Option Nat) → MM
  | [] => []
  | some b :: ρ => M.getD b none :: pick M ρ
  | none :: ρ => none :: pick M ρ
theorem pick_get (M : MM) : ∀ (ρ : List (Option Nat)) (j : Nat), (pick M ρ)[j]? = (ρ[j]?).map fun o => match o with | some b => M.getD b none | none => none
  | [], j => by simp [pick]
  | some b :: ρ, 0 => by simp [pick]
  | none :: ρ, 0 => by simp [pick]
  | some b :: ρ, j + 1 => by simp [pick, pick_get M ρ j]
  | none :: ρ, j + 1 => by simp [pick, pick_get M ρ j]
theorem pick_len (M : MM) : ∀ ρ : List (Option Nat), (pick M ρ).length = ρ.length
  | [] => rfl
  | some b :: ρ => by simp [pick, pick_len M ρ]
  | none :: ρ => by simp [pick, pick_len M ρ]
theorem pick_O {M : MM} {x : Nat} : ∀ ρ : List (Option Nat), x ∈ MM.O (pick M ρ) → ∃ b, some b ∈ ρ ∧ ∃ m, M[b]? = some m ∧ x ∈ mO m
  | [], h => by simp [pick, MM.O] at h
  | some b :: ρ, h => by
    rw [pick, O_cons, List.mem_append] at h
    rcases h with h | h
    · refine ⟨b, by simp, ?_⟩
      rw [List.getD_eq_getElem?_getD] at h
      cases hm : M[b]? with
      | none => rw [hm] at h; simp [mO] at h
      | some m => rw [hm] at h; exact ⟨m, rfl, by simpa using h⟩
    · obtain ⟨b', h1, h2⟩ := pick_O ρ h
      exact ⟨b', by simp [h1], h2⟩
  | none :: ρ, h => by
    rw [pick, O_cons, List.mem_append] at h
    rcases h with h | h
    · simp [mO] at h
    · obtain ⟨b', h1, h2⟩ := pick_O ρ h
      exact ⟨b', by simp [h1], h2⟩

section
variable {B : World} {X : List Nat} {N : Nat} {M : MM} {e : Env} {h : List Blk} {a : Act} {w : World}
theorem mO_nodup {B : Nat} {w : World} {M : MM} {h : List Blk} (hI : MInv B w M h) {b : Nat} {m : Option (Nat × List Nat)} (hm : M[b]? = some m) : (mO m).Nodup :=
  (List.nodup_append.1 ((List.Perm.nodup_iff (O_perm hm)).1 hI.nd)).1
theorem pick_nodup {B : Nat} (hI : MInv B w M h) : ∀ ρ : List (Option Nat), (ρ.filterMap id).Nodup → (MM.O (pick M ρ)).Nodup
  | [], _ => by simp [pick, MM.O]
  | none :: ρ, hn => by
    rw [pick, O_cons]
    exact pick_nodup hI ρ (by simpa using hn)
  | some b :: ρ, hn => by
    rw [pick, O_cons]
    simp only [List.filterMap_cons, id] at hn
    obtain ⟨h1, h2⟩ := List.nodup_cons.1 hn
    refine List.nodup_append.2 ⟨?_, pick_nodup hI ρ h2, fun x hx y hy e => ?_⟩
    · rw [List.getD_eq_getElem?_getD]
      cases hm : M[b]? with
      | none => simp [mO]
      | some m => simpa using mO_nodup hI hm
    · subst e
      obtain ⟨b', h3, m', h4, h5⟩ := pick_O ρ hy
      rw [List.getD_eq_getElem?_getD] at hx
      cases hm : M[b]? with
      | none => rw [hm] at hx; simp [mO] at hx
      | some m =>
        rw [hm] at hx
        have := O_block_inj hI hm h4 (by simpa using hx) h5
        subst this
        exact h1 (List.mem_filterMap.2 ⟨some b', h3, rfl⟩)
theorem rnB_get : ∀ (ρ : List (Option Nat)) (bs : List Blk), rnB h ρ bs → ρ.length = bs.length ∧ ∀ (j : Nat) (k : Blk), bs[j]? = some k →
    (∃ b, ρ[j]? = some (some b) ∧ b ≠ 0 ∧ h[b]? = some k ∧ ∃ n xs dp, k = .arr n xs dp) ∨ (ρ[j]? = some none ∧ ∃ n dp, k = .arr n [] dp)
  | [], [], _ => ⟨rfl, fun j k hk => by simp at hk⟩
  | some b :: ρ, k0 :: bs, H => by
    obtain ⟨h1, h2, h3, h4⟩ := H
    obtain ⟨k1, k2⟩ := rnB_get ρ bs h4
    refine ⟨by simp [k1], fun j k hk => ?_⟩
    cases j with
    | zero =>
      simp at hk
      subst hk
      left
      refine ⟨b, rfl, h1, h2, ?_⟩
      cases k0 with
      | arr n xs dp => exact ⟨n, xs, dp, rfl⟩
      | box _ => exact h3.elim
      | gone => exact h3.elim
      | gho _ _ _ _ _ => exact h3.elim
      | pin _ _ _ _ => exact h3.elim
      | keep _ _ => exact h3.elim
      | bld _ _ _ => exact h3.elim
      | mp _ _ => exact h3.elim
    | succ j => simpa using k2 j k (by simpa using hk)
  | none :: ρ, .arr n xs dp :: bs, H => by
    obtain ⟨rfl, h4⟩ := H
    obtain ⟨k1, k2⟩ := rnB_get ρ bs h4
    refine ⟨by simp [k1], fun j k hk => ?_⟩
    cases j with
    | zero => simp at hk; subst hk; exact .inr ⟨rfl, n, dp, rfl⟩
    | succ j => simpa using k2 j k (by simpa using hk)
  | none :: ρ, .box _ :: bs, H => H.elim
  | none :: ρ, .gone :: bs, H => H.elim
  | none :: ρ, .gho _ _ _ _ _ :: bs, H => H.elim
  | none :: ρ, .pin _ _ _ _ :: bs, H => H.elim
  | none :: ρ, .keep _ _ :: bs, H => H.elim
  | none :: ρ, .bld _ _ _ :: bs, H => H.elim
  | none :: ρ, .mp _ _ :: bs, H => H.elim
  | [], _ :: _, H => H.elim
  | none :: _, [], H => H.elim
  | some _ :: _, [], H => H.elim

theorem repD_sub_O {O O' : List Nat} (hs : ∀ b ∈ O', b ∈ O) {x : D} {cs : List Value} (H : repD O w x cs) : repD O' w x cs :=
  repD_mv (fun b hb _ => ⟨fun hc => hb (hs b hc), rfl⟩) x cs H

/-- the conditions -/
structure Rn (w : World) (X : List Nat) (M : MM) (h : List Blk) (ρ : List (Option Nat)) (bs : List Blk) (B : Nat) : Prop where
  inv : MInv B w M h
  sub : ∀ x ∈ MM.O (mX X :: pick M ρ), x ∈ M.O
  b : rnB h ρ bs
mutual
theorem repC_rn {B : Nat} {ρ : List (Option Nat)} {bs : List Blk} (S : Rn w X M h ρ bs B) : ∀ (va v : V) (cs : List Value), rnV h ρ va v → repC w M h va cs → repC w (mX X :: pick M ρ) (.gone :: bs) v cs ∧ v.isAgg = va.isAgg
  | va, .own j o l, cs, H, R => by
    simp only [rnV, rnO] at H
    split at H
    · rename_i b hb
      obtain ⟨hj, rfl⟩ := H
      obtain ⟨cv, rfl, a, cap, h1, h2, h3, h4, h5⟩ := R
      refine ⟨⟨cv, rfl, a, cap, h1, h2, h3, h4, ?_⟩, rfl⟩
      rcases h5 with h5 | ⟨g, F, arr, t, k1, k2, k3, k4⟩
      · exact .inl h5
      · obtain ⟨e1, e2⟩ := rnB_get ρ bs S.b
        have hjl : j - 1 < bs.length := by rw [← e1]; exact (List.getElem?_eq_some_iff.1 hb).1
        obtain ⟨k, hk⟩ := at_lt hjl
        have hn : nOf (.gone :: bs) j = nOf h b := by
          have hk' : (Blk.gone :: bs)[j]? = some k := by
            cases j with
            | zero => exact absurd rfl hj
            | succ j => simpa using hk
          rcases e2 _ k hk with ⟨b', q1, q2, q3, _⟩ | ⟨q1, _⟩
          · rw [hb] at q1
            cases q1
            simp only [nOf, hk', q3]
          · rw [hb] at q1; cases q1
        refine .inr ⟨g, F, arr, t, ?_, by rw [hn]; exact k2, k3, by rw [hn]; exact k4⟩
        cases j with
        | zero => exact absurd rfl hj
        | succ j =>
          rw [List.getElem?_cons_succ, pick_get]
          simp only [Nat.add_sub_cancel] at hb
          rw [hb, Option.map_some]
          simp [k1]
    · obtain ⟨hj, rfl, rfl, rfl⟩ := H
      cases R
      exact ⟨⟨_, rfl, none, 0, rfl, Nat.le_refl _, Nat.zero_le _, fun _ => rfl, .inl rfl⟩, rfl⟩
    · exact H.elim
  | va, .d y, cs, H, R => by
    obtain ⟨h1, h2⟩ := H
    have := borD_sound (X := M.O) S.inv va cs y R (.inr ⟨h1, rfl⟩) h2
    exact ⟨repD_sub_O S.sub this, borD_agg va y h2⟩
  | va, .st gs, cs, H, R => by
    obtain ⟨fs, rfl, H⟩ := H
    exact ⟨repCs_rn S fs gs cs H R, rfl⟩
  | va, .nils, cs, H, R => by cases H; exact ⟨R, rfl⟩
  | va, .nilp, cs, H, R => by cases H; exact ⟨R, rfl⟩
  | va, .pX x, cs, H, R => by
    cases H
    obtain ⟨b, o, ces, e, h1, h2, h3, h4⟩ := R
    exact ⟨⟨b, o, ces, e, fun hc => h1 (S.sub b hc), h2, h3, repD_sub_O S.sub h4⟩, rfl⟩
  | va, .top, cs, H, R => by
    simp only [rnV] at H
    split at H
    · obtain ⟨cv, rfl, a, cap, rfl, _⟩ := R
      exact ⟨⟨_, rfl, rfl⟩, rfl⟩
    · cases R
      exact ⟨⟨_, rfl, rfl⟩, rfl⟩
    · exact H.elim
  | _, .undef, _, H, _ => H.elim
  | _, .pB _ _ _, _, H, _ => H.elim
  | _, .pL _ _ _ _, _, H, _ => H.elim
  | _, .fn _ _, _, H, _ => H.elim
  | _, .tup _, _, H, _ => H.elim
theorem repCs_rn {B : Nat} {ρ : List (Option Nat)} {bs : List Blk} (S : Rn w X M h ρ bs B) : ∀ (fs gs : List V) (cs : List Value), rnVs h ρ fs gs → repCs w M h fs cs → repCs w (mX X :: pick M ρ) (.gone :: bs) gs cs
  | fs, [], cs, H, R => by cases H; exact R
  | fs, g :: gs, cs, H, R => by
    obtain ⟨f, fs', rfl, h1, h2⟩ := H
    obtain ⟨c1, c2, e, k1, k2⟩ := R
    exact ⟨c1, c2, e, (repC_rn S f g c1 h1 k1).1, repCs_rn S fs' gs c2 h2 k2⟩
end
theorem rep1_rn {B : Nat} {ρ : List (Option Nat)} {bs : List Blk} (S : Rn w X M h ρ bs B) {va v : V} {cv : Value} (H : rnV h ρ va v) (R : rep1 w M h va cv) : rep1 w (mX X :: pick M ρ) (.gone :: bs) v cv := by
  unfold rep1 at R ⊢
  split at R
  · rename_i ha
    obtain ⟨cs, e, R⟩ := R
    obtain ⟨k1, k2⟩ := repC_rn S va v cs H R
    rw [k2, if_pos ha]
    exact ⟨cs, e, k1⟩
  · rename_i ha
    obtain ⟨k1, k2⟩ := repC_rn S va v [cv] H R
    rw [k2, if_neg ha]
    exact k1
theorem repT_rn {B : Nat} {ρ : List (Option Nat)} {bs : List Blk} (S : Rn w X M h ρ bs B) : ∀ (fs gs : List V) (cs : List Value), rnVs h ρ fs gs → repT w M h fs cs → repT w (mX X :: pick M ρ) (.gone :: bs) gs cs
  | fs, [], cs, H, R => by cases H; exact R
  | fs, g :: gs, cs, H, R => by
    obtain ⟨f, fs', rfl, h1, h2⟩ := H
    obtain ⟨c, cs', rfl, k1, k2⟩ := R
    exact ⟨c, cs', rfl, rep1_rn S h1 k1, repT_rn S fs' gs cs' h2 k2⟩
theorem ret_sound (R : Rep B X N M e h a w) {va v : V} {bs : List Blk} {cv : Value} (hv : rep w M h va cv) (H : RetOK h va v bs) :
    ∃ M', MInv B.heap.size w (mX X :: M') (.gone :: bs) ∧ rep w (mX X :: M') (.gone :: bs) v cv := by
  obtain ⟨⟨ρ, hb, hn, ht⟩⟩ := H
  obtain ⟨e1, e2⟩ := rnB_get ρ bs hb
  have h0 : ∀ b, some b ∈ ρ → b ≠ 0 := fun b hm => by
    obtain ⟨j, hj⟩ := List.getElem?_of_mem hm
    obtain ⟨k, hk⟩ := at_lt (xs := bs) (k := j) (by rw [← e1]; exact (List.getElem?_eq_some_iff.1 hj).1)
    rcases e2 j k hk with ⟨b', q1, q2, _⟩ | ⟨q1, _⟩
    · rw [hj] at q1; cases q1; exact q2
    · rw [hj] at q1; cases q1
  have hsub : ∀ x ∈ MM.O (mX X :: pick M ρ), x ∈ M.O := fun x hx => by
    rw [O_cons, List.mem_append] at hx
    rcases hx with hx | hx
    · exact mem_O R.fr hx
    · obtain ⟨b, _, m, hm, hx⟩ := pick_O ρ hx
      exact mem_O hm hx
  have S : Rn w X M h ρ bs B.heap.size := ⟨R.inv, hsub, hb⟩
  refine ⟨pick M ρ, ⟨by simp [pick_len, e1], fun j k m hk hm => ?_, ?_, fun j k m hk hm hl => ?_, fun g hg => R.inv.hi g (hsub g hg)⟩, ?_⟩
  · cases j with
    | zero => simp at hk; subst hk; trivial
    | succ j =>
      rw [List.getElem?_cons_succ] at hk hm
      rw [pick_get] at hm
      rcases e2 j k hk with ⟨b, q1, q2, q3, n, xs, dp, rfl⟩ | ⟨q1, n, dp, rfl⟩
      · rw [q1] at hm
        simp only [Option.map_some, Option.some.injEq] at hm
        obtain ⟨m0, hm0⟩ := at_lt (xs := M) (k := b) (by rw [R.inv.len]; exact (List.getElem?_eq_some_iff.1 q3).1)
        have : m = m0 := by rw [← hm]; simp [hm0]
        subst this
        have hB := R.inv.blk b _ _ q3 hm0
        cases m with
        | none => exact hB
        | some p =>
          obtain ⟨g, F⟩ := p
          obtain ⟨arr, t, k1, k2, k3⟩ := hB
          refine ⟨arr, t, k1, k2, ?_⟩
          cases dp with
          | true => exact k3
          | false =>
            rw [if_neg (by simp)] at k3 ⊢
            exact ⟨k3.1, extDe_mv (fun b hb _ => ⟨fun hc => hb (hsub b hc), rfl⟩) xs 0 k3.2⟩
      · rw [q1] at hm
        simp only [Option.map_some, Option.some.injEq] at hm
        subst hm
        exact rfl
  · rw [O_cons]
    refine List.nodup_append.2 ⟨mO_nodup R.inv R.fr, pick_nodup R.inv ρ hn, fun x hx y hy e => ?_⟩
    subst e
    obtain ⟨b, hbm, m, hm, hx'⟩ := pick_O ρ hy
    have := O_block_inj R.inv R.fr hm hx hx'
    exact h0 b hbm this
  · cases j with
    | zero => simp at hk; subst hk; cases hl
    | succ j =>
      rw [List.getElem?_cons_succ] at hk hm
      rw [pick_get] at hm
      rcases e2 j k hk with ⟨b, q1, q2, q3, n, xs, dp, rfl⟩ | ⟨q1, n, dp, rfl⟩
      · rw [q1] at hm
        simp only [Option.map_some, Option.some.injEq] at hm
        obtain ⟨m0, hm0⟩ := at_lt (xs := M) (k := b) (by rw [R.inv.len]; exact (List.getElem?_eq_some_iff.1 q3).1)
        have : m = m0 := by rw [← hm]; simp [hm0]
        subst this
        exact R.inv.lo b _ _ q3 hm0 rfl
      · rw [q1] at hm
        simp only [Option.map_some, Option.some.injEq] at hm
        subst hm
        intro g hg
        simp [mO] at hg
  · cases v with
    | tup gs =>
      obtain ⟨fs, rfl, hok, ht⟩ := ht
      obtain ⟨cvs, rfl, hv'⟩ := rep_tup.1 hv
      exact ⟨cvs, rfl, repT_rn S fs gs cvs ht hv'⟩
    | top => exact trivial
    | undef => exact ht.2.elim
    | own j o l => exact rep1_rn S ht.2 (rep1_of_rep ht.1 hv)
    | d y => exact rep1_rn S ht.2 (rep1_of_rep ht.1 hv)
    | st gs => exact rep1_rn S ht.2 (rep1_of_rep ht.1 hv)
    | nils => exact rep1_rn S ht.2 (rep1_of_rep ht.1 hv)
    | nilp => exact rep1_rn S ht.2 (rep1_of_rep ht.1 hv)
    | pX x => exact rep1_rn S ht.2 (rep1_of_rep ht.1 hv)
    | pB _ _ _ => exact ht.2.elim
    | pL _ _ _ _ => exact ht.2.elim
    | fn _ _ => exact ht.2.elim
end

/-! ### results -/
def resVs (tt : TT) : List ResultVar → Env → List Blk → (List V → Prop) → Prop
  | [], _, _, K => K []
  | .tmp t :: rs, e, h, K => resVs tt rs e h fun vs => K (gt e t :: vs)
  | .cell a t :: rs, e, h, K => loadV tt t (gt e a) h fun v => resVs tt rs e h fun vs => K (v :: vs)
def retV (tt : TT) (rs : List ResultVar) (e : Env) (h : List Blk) (K : V → Prop) : Prop :=
  resVs tt rs e h fun vs => match vs with
    | [v] => K v
    | vs => bif okTs vs then K (.tup vs) else False
theorem res_sound {P : Program} {tt : TT} (hT : TOk P tt) {B : World} {X : List Nat} {N : Nat} {M : MM} {e : Env} {h : List Blk} {a : Act} {w : World} (R : Rep B X N M e h a w) :
    ∀ (rs : List ResultVar) (K : List V → Prop), resVs tt rs e h K → ∃ (vs : List V) (cvs : List Value), K vs ∧ vs.length = cvs.length ∧ (∀ (i : Nat) (v : V), vs[i]? = some v → ∃ c, cvs[i]? = some c ∧ rep w M h v c) ∧
      (rs.mapM (fun r => (match r with
        | .tmp t => pure (a.tmps.getD t Go.undef)
        | .cell x t => do loadVar t (← asAddr (a.tmps.getD x Go.undef)) : Sem Value))).run P w = .ok cvs w
  | [], K, H => ⟨[], [], H, rfl, fun i v h => by simp at h, rfl⟩
  | .tmp t :: rs, K, H => by
    obtain ⟨vs, cvs, h1, h2, h3, h4⟩ := res_sound hT R rs _ H
    refine ⟨gt e t :: vs, a.tmps.getD t Go.undef :: cvs, h1, by simp [h2], fun i v hi => ?_, ?_⟩
    · cases i with
      | zero => simp at hi; subst hi; exact ⟨_, rfl, R.env t⟩
      | succ i => simpa using h3 i v (by simpa using hi)
    · simp only [List.mapM_cons, Sem.run_bind, Sem.run_pure, Result.andThen_ok, h4]
  | .cell x t :: rs, K, H => by
    obtain ⟨v, cv, k1, k2, k3⟩ := load_sound hT R.inv (R.env x) H
    obtain ⟨vs, cvs, h1, h2, h3, h4⟩ := res_sound hT R rs _ k1
    refine ⟨v :: vs, cv :: cvs, h1, by simp [h2], fun i u hi => ?_, ?_⟩
    · cases i with
      | zero => simp at hi; subst hi; exact ⟨_, rfl, k2⟩
      | succ i => simpa using h3 i u (by simpa using hi)
    · have hx := R.env x
      have : ∃ ad, a.tmps.getD x Go.undef = .pointer (some ad) := by
        have H : loadV tt t (gt e x) h _ := H
        unfold loadV at H
        split at H
        · exact H.elim
        · split at H
          · rename_i y hy; rw [hy] at hx; obtain ⟨b, o, ces, e1, _⟩ := rep_pX.1 hx; exact ⟨_, e1⟩
          · rename_i hy; rw [hy] at hx; obtain ⟨g, F, _, e1⟩ := rep_pB.1 hx; rw [pbv_lo (BL H).1] at e1; exact ⟨_, e1⟩
          · rename_i hy; rw [hy] at hx; obtain ⟨g, F, _, e1⟩ := rep_pL.1 hx; exact ⟨_, e1⟩
          · exact H.elim
      obtain ⟨ad, had⟩ := this
      have k3' := k3 w (Ext.refl w)
      rw [had] at k3'
      simp only [Instr.loadAt, Instr.sureAddr, Sem.run_bind, Sem.run_pure, Result.andThen_ok] at k3'
      have ha : (asAddr (a.tmps.getD x Go.undef)).run P w = .ok ad w := by rw [had]; rfl
      simp only [List.mapM_cons, Sem.run_bind, Sem.run_pure, Result.andThen_ok, h4, ha, k3']

/-! ### from a function's code to its contract -/
mutual
/-- what is known of data in memory -/
def wfD : D → Prop
  | .int k n => inR k n
  | .bool _ => True
  | .str s => s.size ≤ maxLen
  | .st fs => wfDs fs
  | .lst xs => xs.length ≤ maxLen ∧ wfDs xs
  | .hole _ _ _ => True
  | .fnv _ => True
def wfDs : List D → Prop
  | [] => True
  | x :: xs => wfD x ∧ wfDs xs
end
mutual
theorem repD_wf {O : List Nat} {w : World} : ∀ (x : D) (cs : List Value), repD O w x cs → wfD x
  | .int k n, cs, h => h.2
  | .bool b, cs, h => trivial
  | .str s, cs, h => h.2
  | .hole _ _ _, cs, h => trivial
  | .fnv _, cs, h => trivial
  | .lst xs, cs, h => by
    obtain ⟨a, cap, n, h1, h2, h3, h4, h5⟩ := h
    exact ⟨Nat.le_trans h2 h3, repDe_wf xs 0 h5⟩
  | .st fs, cs, h => repDs_wf fs cs h
theorem repDs_wf {O : List Nat} {w : World} : ∀ (fs : List D) (cs : List Value), repDs O w fs cs → wfDs fs
  | [], cs, h => trivial
  | f :: fs, cs, h => by
    obtain ⟨c1, c2, e, h1, h2⟩ := h
    exact ⟨repD_wf f c1 h1, repDs_wf fs c2 h2⟩
theorem repDe_wf {O : List Nat} {w : World} {a : Option Addr} {n : Nat} : ∀ (xs : List D) (i : Nat), repDe O w a n xs i → wfDs xs
  | [], i, h => trivial
  | x :: xs, i, h => by
    obtain ⟨⟨b, o, ces, e, h1, h2, h3, h4, h5⟩, h6⟩ := h
    exact ⟨repD_wf x ces h5, repDe_wf xs (i + 1) h6⟩
end
def wfV : V → Prop
  | .d x => wfD x
  | .pX x => wfD x
  | _ => True
def wfVs : List V → Prop
  | [] => True
  | v :: vs => wfV v ∧ wfVs vs
theorem repT_wf {w : World} {M : MM} {h : List Blk} : ∀ (vs : List V) (cs : List Value), repT w M h vs cs → wfVs vs
  | [], _, _ => trivial
  | v :: vs, cs, H => by
    obtain ⟨c, cs', rfl, h1, h2⟩ := H
    refine ⟨?_, repT_wf vs cs' h2⟩
    have := rep1_cells h1
    cases v <;> first
      | trivial
      | exact repD_wf _ _ this
      | (obtain ⟨_, _, ces, _, _, _, _, hr⟩ := this; exact repD_wf _ _ hr)
def argE : Nat → List V → Env
  | _, [] => []
  | i, v :: vs => (i, v) :: argE (i + 1) vs
theorem argE_get (i : Nat) : ∀ (vs : List V) (k : Nat), gt (argE i vs) k = if i ≤ k then (match vs[k - i]? with | some v => v | none => .top) else .top := by
  intro vs
  induction vs generalizing i with
  | nil => intro k; simp [argE, gt]
  | cons v vs ih =>
    intro k
    rw [argE, gt_cons]
    by_cases hk : i = k
    · subst hk; simp
    · rw [if_neg hk, ih]
      by_cases hle : i ≤ k
      · rw [if_pos (by omega), if_pos hle]
        have : k - i = (k - (i + 1)) + 1 := by omega
        rw [this, List.getElem?_cons_succ]
      · rw [if_neg (by omega), if_neg hle]
def retQ (tt : TT) (rs : List ResultVar) (v : V) (bs : List Blk) : Post
  | .normal => fun e h => retV tt rs e h fun va => RetOK h va v bs
  | .ret => fun e h => retV tt rs e h fun va => RetOK h va v bs
  | .exit _ => fun _ _ => False
theorem run_results {P : Program} {fn : Func} {tmps : Array Value} {w : World} {cvs : List Value}
    (h : (fn.results.toList.mapM (fun r => (match r with
        | .tmp t => pure (tmps.getD t Go.undef)
        | .cell x t => do loadVar t (← asAddr (tmps.getD x Go.undef)) : Sem Value))).run P w = .ok cvs w) :
    (results fn tmps).run P w = .ok (match cvs with | [c] => c | cvs => .tuple cvs.toArray) w := by
  unfold results
  rw [Array.mapM_eq_mapM_toList, Sem.run_bind, Sem.run_map]
  refine (congrArg (fun r => Result.andThen (Result.andThen r _) _) h).trans ?_
  simp only [Result.andThen_ok, Sem.run_pure]
  match cvs with
  | [] => rfl
  | [c] => rfl
  | c :: d :: r => simp
theorem pc_intro {P : Program} {tt : TT} (hT : TOk P tt) (hm : P.follows .mixedOrders = true) {f : FuncId} {fn : Func} {c : Code} (hf : P.funcs[f]? = some fn) (hb : fn.body = some c) (hname : (fn.name == "runtime.NumGoroutine") = false)
    (hN : codeB fn.ntmps c = true) {As : List V} (hA : Nat.ble As.length fn.ntmps = true) {v : V} {bs : List Blk}
    (H : wfVs As → wpC P tt c (retQ tt fn.results.toList v bs) (argE 0 As) [.gone]) : PC P f As v bs := by
  refine ⟨⟨fn, hf, hname, by rw [hb]; rfl⟩, fun w X args hX1 hX2 hargs => ?_⟩
  have hlen : ∀ (vs : List V) (cs : List Value), repT w [mX X] [.gone] vs cs → cs.length = vs.length := by
    intro vs
    induction vs with
    | nil => intro cs H; cases H; rfl
    | cons v vs ih => intro cs H; obtain ⟨c, cs', rfl, _, h2⟩ := H; simp [ih _ h2]
  have hl := hlen As args hargs
  have hA' := Nat.le_of_ble_eq_true hA
  have hO : MM.O [mX X] = X := by rw [O_one, mO_mX]
  have R : Rep w X fn.ntmps [mX X] (argE 0 As) [.gone] { tmps := args.toArray ++ Array.replicate (fn.ntmps - args.toArray.size) Go.undef, defers := [] } w := {
    ext := Ext.refl w
    inv := ⟨rfl, fun b k m hk hm => by
        cases b with
        | zero => simp at hk; subst hk; trivial
        | succ b => simp at hk, by rw [hO]; exact hX1, fun b k m hk hm hl => by
        cases b with
        | zero => simp at hk; subst hk; cases hl
        | succ b => simp at hk, by rw [hO]; exact hX2⟩
    env := fun k => by
      rw [argE_get, if_pos (Nat.zero_le _), Nat.sub_zero]
      split
      · rename_i v hv
        obtain ⟨cc, k1, k2⟩ := repT_get As args k v hargs hv
        have hk : k < args.length := (List.getElem?_eq_some_iff.1 k1).1
        have : (args.toArray ++ Array.replicate (fn.ntmps - args.toArray.size) Go.undef).getD k Go.undef = cc := by
          rw [Array.getD_eq_getD_getElem?, Array.getElem?_append_left (by simpa using hk)]
          simp [k1]
        dsimp only
        rw [this]
        exact rep_of_rep1 k2
      · trivial
    sz := by simp; omega
    df := rfl
    fr := rfl
    fh := rfl }
  refine calls_of_wp hf hb (wp_mono (code_sound hT hm c _ _ _ _ _ _ hN (H (repT_wf _ _ hargs)) R) fun x a' w' hx => ?_)
  have fin : ∀ (e : Env) (h : List Blk) (M : MM), retV tt fn.results.toList e h (fun va => RetOK h va v bs) → Rep w X fn.ntmps M e h a' w' →
      a'.defers = [] ∧ ∃ cv, (results fn a'.tmps).run P w' = .ok cv w' ∧ ∃ cv' M', Ending.returned cv = .returned cv' ∧ Ext w w' ∧ MInv w.heap.size w' (mX X :: M') (.gone :: bs) ∧ rep w' (mX X :: M') (.gone :: bs) v cv' := by
    intro e h M hr R'
    obtain ⟨vs, cvs, h1, h2, h3, h4⟩ := res_sound hT R' _ _ hr
    refine ⟨R'.df, _, run_results h4, ?_⟩
    match vs, cvs, h2 with
    | [va], [cv], _ =>
      obtain ⟨c', k1, k2⟩ := h3 0 va rfl
      cases k1
      obtain ⟨M', q1, q2⟩ := ret_sound R' k2 h1
      exact ⟨cv, M', rfl, R'.ext, q1, q2⟩
    | [], [], _ =>
      obtain ⟨M', q1, q2⟩ := ret_sound R' (va := .tup []) (cv := .tuple #[]) ⟨[], rfl, rfl⟩ h1
      exact ⟨_, M', rfl, R'.ext, q1, q2⟩
    | va :: vb :: vs, ca :: cb :: cvs, h2 =>
      dsimp only at h1
      cases hok : okTs (va :: vb :: vs) with
      | false => rw [hok] at h1; exact h1.elim
      | true =>
        rw [hok] at h1
        simp only [cond_true] at h1
        have hall : ∀ (vs : List V) (cs : List Value), vs.length = cs.length → okTs vs = true → (∀ (i : Nat) (v : V), vs[i]? = some v → ∃ c, cs[i]? = some c ∧ rep w' M h v c) → repT w' M h vs cs := by
          intro vs
          induction vs with
          | nil => intro cs hl _ _; cases cs with
            | nil => rfl
            | cons _ _ => simp at hl
          | cons v vs ih =>
            intro cs hl ho hg
            cases cs with
            | nil => simp at hl
            | cons c cs =>
              simp only [okTs, Bool.and_eq_true] at ho
              obtain ⟨c', k1, k2⟩ := hg 0 v rfl
              cases k1
              exact ⟨c, cs, rfl, rep1_of_rep ho.1 k2, ih cs (by simpa using hl) ho.2 fun i u hi => by simpa using hg (i + 1) u (by simpa using hi)⟩
        obtain ⟨M', q1, q2⟩ := ret_sound R' (va := .tup (va :: vb :: vs)) (cv := .tuple (ca :: cb :: cvs).toArray) ⟨_, rfl, hall _ _ h2 hok h3⟩ h1
        exact ⟨_, M', rfl, R'.ext, q1, q2⟩
  cases x with
  | normal => obtain ⟨e, h, M, k1, k2⟩ := hx; exact fin e h M k1 k2
  | ret => obtain ⟨e, h, M, k1, k2⟩ := hx; exact fin e h M k1 k2
  | exit id => obtain ⟨e, h, M, k1, k2⟩ := hx; exact k1.elim
  | goto l => exact hx.elim
  | panic c => exact hx.elim
  | outgrown => exact hx.elim
#print axioms pc_intro
end Go.Proofs.Ytdeafbgnbgihgaa

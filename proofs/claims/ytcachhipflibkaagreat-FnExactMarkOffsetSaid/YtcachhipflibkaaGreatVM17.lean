/- merged: several parts in one text. Leans on no more than they do. -/
import Derived.Test.YtcachhipflibkaaGreatVM14
import Derived.KernelRfl
/- The abstract machine, fifteenth part: what a function returns; from its code to its contract. Leans on no program. -/
set_option linter.unusedSimpArgs false
set_option linter.unusedVariables false
namespace Go.Proofs.YtcachhipflibkaaGreat
open Go.RowKit

/-! ### the result's blocks under new numbers -/
def rnB (h : List Blk) : List (Option Nat) → List Blk → Prop
  | [], [] => True
  | some b :: ρ, k :: bs => b ≠ 0 ∧ h[b]? = some k ∧ (match k with | .arr _ _ _ => True | _ => False) ∧ rnB h ρ bs
  | none :: ρ, .arr _ xs _ :: bs => xs = [] ∧ rnB h ρ bs
  | _, _ => False
def rnO (ρ : List (Option Nat)) (va : V) (j o l : Nat) : Prop :=
  match ρ[j - 1]? with
  | some (some b) => j ≠ 0 ∧ va = .own b o l
  | some none => j ≠ 0 ∧ va = .nils ∧ o = 0 ∧ l = 0
  | none => False
mutual
def rnV (h : List Blk) (ρ : List (Option Nat)) : V → V → Prop
  | va, .own j o l => rnO ρ va j o l
  | va, .d y => va.ext = true ∧ borD h va y
  | va, .st gs => ∃ fs, va = .st fs ∧ rnVs h ρ fs gs
  | va, .nils => va = .nils
  | va, .nilp => va = .nilp
  | va, .pX x => va = .pX x
  | va, .top => (match va with
    | .own _ _ _ => True
    | .nils => True
    | _ => False)
  | _, .undef => False
  | _, .pB _ _ _ => False
  | _, .pL _ _ _ _ => False
  | _, .fn _ _ => False
  | _, .tup _ => False
def rnVs (h : List Blk) (ρ : List (Option Nat)) : List V → List V → Prop
  | fs, [] => fs = []
  | fs, g :: gs => ∃ f fs', fs = f :: fs' ∧ rnV h ρ f g ∧ rnVs h ρ fs' gs
end
def rnT (h : List Blk) (ρ : List (Option Nat)) : V → V → Prop
  | va, .tup gs => ∃ fs, va = .tup fs ∧ okTs fs = true ∧ rnVs h ρ fs gs
  | va, v => va.okc = true ∧ rnV h ρ va v
structure RetOK (h : List Blk) (va v : V) (bs : List Blk) : Prop where
  ex : ∃ ρ : List (Option Nat), rnB h ρ bs ∧ (ρ.filterMap id).Nodup ∧ rnT h ρ va v

def pick (M : MM) : List (Option Nat) → MM
  | [] => []
  | some b :: ρ => M.getD b none :: pick M ρ
  | none :: ρ => none :: pick M ρ
theorem pick_get (M : MM) : ∀ (ρ : List (Option Nat)) (j : Nat), (pick M ρ)[j]? = (ρ[j]?).map fun o => match o with | some b => M.getD b none | none => none
  | [], j => by simp [pick]
  | some b :: ρ, 0 => by simp [pick]
  | none :: ρ, 0 => by simp [pick]
  | some b :: ρ, j + 1 => by simp [pick, pick_get M ρ j]
  | none :: ρ, j + 1 => by simp [pick, pick_get M ρ j]
theorem pick_len (M : MM) : ∀ ρ : List (Option Nat), (pick M ρ).length = ρ.length
  | [] => rfl
  | some b :: ρ => by simp [pick, pick_len M ρ]
  | none :: ρ => by simp [pick, pick_len M ρ]
theorem pick_O {M : MM} {x : Nat} : ∀ ρ : List (Option Nat), x ∈ MM.O (pick M ρ) → ∃ b, some b ∈ ρ ∧ ∃ m, M[b]? = some m ∧ x ∈ mO m
  | [], h => by simp [pick, MM.O] at h
  | some b :: ρ, h => by
    rw [pick, O_cons, List.mem_append] at h
    rcases h with h | h
    · refine ⟨b, by simp, ?_⟩
      rw [List.getD_eq_getElem?_getD] at h
      cases hm : M[b]? with
      | none => rw [hm] at h; simp [mO] at h
      | some m => rw [hm] at h; exact ⟨m, rfl, by simpa using h⟩
    · obtain ⟨b', h1, h2⟩ := pick_O ρ h
      exact ⟨b', by simp [h1], h2⟩
  | none :: ρ, h => by
    rw [pick, O_cons, List.mem_append] at h
    rcases h with h | h
    · simp [mO] at h
    · obtain ⟨b', h1, h2⟩ := pick_O ρ h
      exact ⟨b', by simp [h1], h2⟩

section
variable {B : World} {X : List Nat} {N : Nat} {M : MM} {e : Env} {h : List Blk} {a : Act} {w : World}
theorem mO_nodup {B : Nat} {w : World} {M : MM} {h : List Blk} (hI : MInv B w M h) {b : Nat} {m : Option (Nat × List Nat)} (hm : M[b]? = some m) : (mO m).Nodup :=
  (List.nodup_append.1 ((List.Perm.nodup_iff (O_perm hm)).1 hI.nd)).1
theorem pick_nodup {B : Nat} (hI : MInv B w M h) : ∀ ρ : List (Option Nat), (ρ.filterMap id).Nodup → (MM.O (pick M ρ)).Nodup
  | [], _ => by simp [pick, MM.O]
  | none :: ρ, hn => by
    rw [pick, O_cons]
    exact pick_nodup hI ρ (by simpa using hn)
  | some b :: ρ, hn => by
    rw [pick, O_cons]
    simp only [List.filterMap_cons, id] at hn
    obtain ⟨h1, h2⟩ := List.nodup_cons.1 hn
    refine List.nodup_append.2 ⟨?_, pick_nodup hI ρ h2, fun x hx y hy e => ?_⟩
    · rw [List.getD_eq_getElem?_getD]
      cases hm : M[b]? with
      | none => simp [mO]
      | some m => simpa using mO_nodup hI hm
    · subst e
      obtain ⟨b', h3, m', h4, h5⟩ := pick_O ρ hy
      rw [List.getD_eq_getElem?_getD] at hx
      cases hm : M[b]? with
      | none => rw [hm] at hx; simp [mO] at hx
      | some m =>
        rw [hm] at hx
        have := O_block_inj hI hm h4 (by simpa using hx) h5
        subst this
        exact h1 (List.mem_filterMap.2 ⟨some b', h3, rfl⟩)
theorem rnB_get : ∀ (ρ : List (Option Nat)) (bs : List Blk), rnB h ρ bs → ρ.length = bs.length ∧ ∀ (j : Nat) (k : Blk), bs[j]? = some k →
    (∃ b, ρ[j]? = some (some b) ∧ b ≠ 0 ∧ h[b]? = some k ∧ ∃ n xs dp, k = .arr n xs dp) ∨ (ρ[j]? = some none ∧ ∃ n dp, k = .arr n [] dp)
  | [], [], _ => ⟨rfl, fun j k hk => by simp at hk⟩
  | some b :: ρ, k0 :: bs, H => by
    obtain ⟨h1, h2, h3, h4⟩ := H
    obtain ⟨k1, k2⟩ := rnB_get ρ bs h4
    refine ⟨by simp [k1], fun j k hk => ?_⟩
    cases j with
    | zero =>
      simp at hk
      subst hk
      left
      refine ⟨b, rfl, h1, h2, ?_⟩
      cases k0 with
      | arr n xs dp => exact ⟨n, xs, dp, rfl⟩
      | box _ => exact h3.elim
      | gone => exact h3.elim
      | gho _ _ _ _ _ => exact h3.elim
      | pin _ _ _ _ => exact h3.elim
      | keep _ _ => exact h3.elim
      | bld _ _ _ => exact h3.elim
      | mp _ _ => exact h3.elim
    | succ j => simpa using k2 j k (by simpa using hk)
  | none :: ρ, .arr n xs dp :: bs, H => by
    obtain ⟨rfl, h4⟩ := H
    obtain ⟨k1, k2⟩ := rnB_get ρ bs h4
    refine ⟨by simp [k1], fun j k hk => ?_⟩
    cases j with
    | zero => simp at hk; subst hk; exact .inr ⟨rfl, n, dp, rfl⟩
    | succ j => simpa using k2 j k (by simpa using hk)
  | none :: ρ, .box _ :: bs, H => H.elim
  | none :: ρ, .gone :: bs, H => H.elim
  | none :: ρ, .gho _ _ _ _ _ :: bs, H => H.elim
  | none :: ρ, .pin _ _ _ _ :: bs, H => H.elim
  | none :: ρ, .keep _ _ :: bs, H => H.elim
  | none :: ρ, .bld _ _ _ :: bs, H => H.elim
  | none :: ρ, .mp _ _ :: bs, H => H.elim
  | [], _ :: _, H => H.elim
  | none :: _, [], H => H.elim
  | some _ :: _, [], H => H.elim

theorem repD_sub_O {O O' : List Nat} (hs : ∀ b ∈ O', b ∈ O) {x : D} {cs : List Value} (H : repD O w x cs) : repD O' w x cs :=
  repD_mv (fun b hb _ => ⟨fun hc => hb (hs b hc), rfl⟩) x cs H

/-- the conditions -/
structure Rn (w : World) (X : List Nat) (M : MM) (h : List Blk) (ρ : List (Option Nat)) (bs : List Blk) (B : Nat) : Prop where
  inv : MInv B w M h
  sub : ∀ x ∈ MM.O (mX X :: pick M ρ), x ∈ M.O
  b : rnB h ρ bs
mutual
theorem repC_rn {B : Nat} {ρ : List (Option Nat)} {bs : List Blk} (S : Rn w X M h ρ bs B) : ∀ (va v : V) (cs : List Value), rnV h ρ va v → repC w M h va cs → repC w (mX X :: pick M ρ) (.gone :: bs) v cs ∧ v.isAgg = va.isAgg
  | va, .own j o l, cs, H, R => by
    simp only [rnV, rnO] at H
    split at H
    · rename_i b hb
      obtain ⟨hj, rfl⟩ := H
      obtain ⟨cv, rfl, a, cap, h1, h2, h3, h4, h5⟩ := R
      refine ⟨⟨cv, rfl, a, cap, h1, h2, h3, h4, ?_⟩, rfl⟩
      rcases h5 with h5 | ⟨g, F, arr, t, k1, k2, k3, k4⟩
      · exact .inl h5
      · obtain ⟨e1, e2⟩ := rnB_get ρ bs S.b
        have hjl : j - 1 < bs.length := by rw [← e1]; exact (List.getElem?_eq_some_iff.1 hb).1
        obtain ⟨k, hk⟩ := at_lt hjl
        have hn : nOf (.gone :: bs) j = nOf h b := by
          have hk' : (Blk.gone :: bs)[j]? = some k := by
            cases j with
            | zero => exact absurd rfl hj
            | succ j => simpa using hk
          rcases e2 _ k hk with ⟨b', q1, q2, q3, _⟩ | ⟨q1, _⟩
          · rw [hb] at q1
            cases q1
            simp only [nOf, hk', q3]
          · rw [hb] at q1; cases q1
        refine .inr ⟨g, F, arr, t, ?_, by rw [hn]; exact k2, k3, by rw [hn]; exact k4⟩
        cases j with
        | zero => exact absurd rfl hj
        | succ j =>
          rw [List.getElem?_cons_succ, pick_get]
          simp only [Nat.add_sub_cancel] at hb
          rw [hb, Option.map_some]
          simp [k1]
    · obtain ⟨hj, rfl, rfl, rfl⟩ := H
      cases R
      exact ⟨⟨_, rfl, none, 0, rfl, Nat.le_refl _, Nat.zero_le _, fun _ => rfl, .inl rfl⟩, rfl⟩
    · exact H.elim
  | va, .d y, cs, H, R => by
    obtain ⟨h1, h2⟩ := H
    have := borD_sound (X := M.O) S.inv va cs y R (.inr ⟨h1, rfl⟩) h2
    exact ⟨repD_sub_O S.sub this, borD_agg va y h2⟩
  | va, .st gs, cs, H, R => by
    obtain ⟨fs, rfl, H⟩ := H
    exact ⟨repCs_rn S fs gs cs H R, rfl⟩
  | va, .nils, cs, H, R => by cases H; exact ⟨R, rfl⟩
  | va, .nilp, cs, H, R => by cases H; exact ⟨R, rfl⟩
  | va, .pX x, cs, H, R => by
    cases H
    obtain ⟨b, o, ces, e, h1, h2, h3, h4⟩ := R
    exact ⟨⟨b, o, ces, e, fun hc => h1 (S.sub b hc), h2, h3, repD_sub_O S.sub h4⟩, rfl⟩
  | va, .top, cs, H, R => by
    simp only [rnV] at H
    split at H
    · obtain ⟨cv, rfl, a, cap, rfl, _⟩ := R
      exact ⟨⟨_, rfl, rfl⟩, rfl⟩
    · cases R
      exact ⟨⟨_, rfl, rfl⟩, rfl⟩
    · exact H.elim
  | _, .undef, _, H, _ => H.elim
  | _, .pB _ _ _, _, H, _ => H.elim
  | _, .pL _ _ _ _, _, H, _ => H.elim
  | _, .fn _ _, _, H, _ => H.elim
  | _, .tup _, _, H, _ => H.elim
theorem repCs_rn {B : Nat} {ρ : List (Option Nat)} {bs : List Blk} (S : Rn w X M h ρ bs B) : ∀ (fs gs : List V) (cs : List Value), rnVs h ρ fs gs → repCs w M h fs cs → repCs w (mX X :: pick M ρ) (.gone :: bs) gs cs
  | fs, [], cs, H, R => by cases H; exact R
  | fs, g :: gs, cs, H, R => by
    obtain ⟨f, fs', rfl, h1, h2⟩ := H
    obtain ⟨c1, c2, e, k1, k2⟩ := R
    exact ⟨c1, c2, e, (repC_rn S f g c1 h1 k1).1, repCs_rn S fs' gs c2 h2 k2⟩
end
theorem rep1_rn {B : Nat} {ρ : List (Option Nat)} {bs : List Blk} (S : Rn w X M h ρ bs B) {va v : V} {cv : Value} (H : rnV h ρ va v) (R : rep1 w M h va cv) : rep1 w (mX X :: pick M ρ) (.gone :: bs) v cv := by
  unfold rep1 at R ⊢
  split at R
  · rename_i ha
    obtain ⟨cs, e, R⟩ := R
    obtain ⟨k1, k2⟩ := repC_rn S va v cs H R
    rw [k2, if_pos ha]
    exact ⟨cs, e, k1⟩
  · rename_i ha
    obtain ⟨k1, k2⟩ := repC_rn S va v [cv] H R
    rw [k2, if_neg ha]
    exact k1
theorem repT_rn {B : Nat} {ρ : List (Option Nat)} {bs : List Blk} (S : Rn w X M h ρ bs B) : ∀ (fs gs : List V) (cs : List Value), rnVs h ρ fs gs → repT w M h fs cs → repT w (mX X :: pick M ρ) (.gone :: bs) gs cs
  | fs, [], cs, H, R => by cases H; exact R
  | fs, g :: gs, cs, H, R => by
    obtain ⟨f, fs', rfl, h1, h2⟩ := H
    obtain ⟨c, cs', rfl, k1, k2⟩ := R
    exact ⟨c, cs', rfl, rep1_rn S h1 k1, repT_rn S fs' gs cs' h2 k2⟩
theorem ret_sound (R : Rep B X N M e h a w) {va v : V} {bs : List Blk} {cv : Value} (hv : rep w M h va cv) (H : RetOK h va v bs) :
    ∃ M', MInv B.heap.size w (mX X :: M') (.gone :: bs) ∧ rep w (mX X :: M') (.gone :: bs) v cv := by
  obtain ⟨⟨ρ, hb, hn, ht⟩⟩ := H
  obtain ⟨e1, e2⟩ := rnB_get ρ bs hb
  have h0 : ∀ b, some b ∈ ρ → b ≠ 0 := fun b hm => by
    obtain ⟨j, hj⟩ := List.getElem?_of_mem hm
    obtain ⟨k, hk⟩ := at_lt (xs := bs) (k := j) (by rw [← e1]; exact (List.getElem?_eq_some_iff.1 hj).1)
    rcases e2 j k hk with ⟨b', q1, q2, _⟩ | ⟨q1, _⟩
    · rw [hj] at q1; cases q1; exact q2
    · rw [hj] at q1; cases q1
  have hsub : ∀ x ∈ MM.O (mX X :: pick M ρ), x ∈ M.O := fun x hx => by
    rw [O_cons, List.mem_append] at hx
    rcases hx with hx | hx
    · exact mem_O R.fr hx
    · obtain ⟨b, _, m, hm, hx⟩ := pick_O ρ hx
      exact mem_O hm hx
  have S : Rn w X M h ρ bs B.heap.size := ⟨R.inv, hsub, hb⟩
  refine ⟨pick M ρ, ⟨by simp [pick_len, e1], fun j k m hk hm => ?_, ?_, fun j k m hk hm hl => ?_, fun g hg => R.inv.hi g (hsub g hg)⟩, ?_⟩
  · cases j with
    | zero => simp at hk; subst hk; trivial
    | succ j =>
      rw [List.getElem?_cons_succ] at hk hm
      rw [pick_get] at hm
      rcases e2 j k hk with ⟨b, q1, q2, q3, n, xs, dp, rfl⟩ | ⟨q1, n, dp, rfl⟩
      · rw [q1] at hm
        simp only [Option.map_some, Option.some.injEq] at hm
        obtain ⟨m0, hm0⟩ := at_lt (xs := M) (k := b) (by rw [R.inv.len]; exact (List.getElem?_eq_some_iff.1 q3).1)
        have : m = m0 := by rw [← hm]; simp [hm0]
        subst this
        have hB := R.inv.blk b _ _ q3 hm0
        cases m with
        | none => exact hB
        | some p =>
          obtain ⟨g, F⟩ := p
          obtain ⟨arr, t, k1, k2, k3⟩ := hB
          refine ⟨arr, t, k1, k2, ?_⟩
          cases dp with
          | true => exact k3
          | false =>
            rw [if_neg (by simp)] at k3 ⊢
            exact ⟨k3.1, extDe_mv (fun b hb _ => ⟨fun hc => hb (hsub b hc), rfl⟩) xs 0 k3.2⟩
      · rw [q1] at hm
        simp only [Option.map_some, Option.some.injEq] at hm
        subst hm
        exact rfl
  · rw [O_cons]
    refine List.nodup_append.2 ⟨mO_nodup R.inv R.fr, pick_nodup R.inv ρ hn, fun x hx y hy e => ?_⟩
    subst e
    obtain ⟨b, hbm, m, hm, hx'⟩ := pick_O ρ hy
    have := O_block_inj R.inv R.fr hm hx hx'
    exact h0 b hbm this
  · cases j with
    | zero => simp at hk; subst hk; cases hl
    | succ j =>
      rw [List.getElem?_cons_succ] at hk hm
      rw [pick_get] at hm
      rcases e2 j k hk with ⟨b, q1, q2, q3, n, xs, dp, rfl⟩ | ⟨q1, n, dp, rfl⟩
      · rw [q1] at hm
        simp only [Option.map_some, Option.some.injEq] at hm
        obtain ⟨m0, hm0⟩ := at_lt (xs := M) (k := b) (by rw [R.inv.len]; exact (List.getElem?_eq_some_iff.1 q3).1)
        have : m = m0 := by rw [← hm]; simp [hm0]
        subst this
        exact R.inv.lo b _ _ q3 hm0 rfl
      · rw [q1] at hm
        simp only [Option.map_some, Option.some.injEq] at hm
        subst hm
        intro g hg
        simp [mO] at hg
  · cases v with
    | tup gs =>
      obtain ⟨fs, rfl, hok, ht⟩ := ht
      obtain ⟨cvs, rfl, hv'⟩ := rep_tup.1 hv
      exact ⟨cvs, rfl, repT_rn S fs gs cvs ht hv'⟩
    | top => exact trivial
    | undef => exact ht.2.elim
    | own j o l => exact rep1_rn S ht.2 (rep1_of_rep ht.1 hv)
    | d y => exact rep1_rn S ht.2 (rep1_of_rep ht.1 hv)
    | st gs => exact rep1_rn S ht.2 (rep1_of_rep ht.1 hv)
    | nils => exact rep1_rn S ht.2 (rep1_of_rep ht.1 hv)
    | nilp => exact rep1_rn S ht.2 (rep1_of_rep ht.1 hv)
    | pX x => exact rep1_rn S ht.2 (rep1_of_rep ht.1 hv)
    | pB _ _ _ => exact ht.2.elim
    | pL _ _ _ _ => exact ht.2.elim
    | fn _ _ => exact ht.2.elim
end

/-! ### results -/
def resVs (tt : TT) : List ResultVar → Env → List Blk → (List V → Prop) → Prop
  | [], _, _, K => K []
  | .tmp t :: rs, e, h, K => resVs tt rs e h fun vs => K (gt e t :: vs)
  | .cell a t :: rs, e, h, K => loadV tt t (gt e a) h fun v => resVs tt rs e h fun vs => K (v :: vs)
def retV (tt : TT) (rs : List ResultVar) (e : Env) (h : List Blk) (K : V → Prop) : Prop :=
  resVs tt rs e h fun vs => match vs with
    | [v] => K v
    | vs => bif okTs vs then K (.tup vs) else False
theorem res_sound {P : Program} {tt : TT} (hT : TOk P tt) {B : World} {X : List Nat} {N : Nat} {M : MM} {e : Env} {h : List Blk} {a : Act} {w : World} (R : Rep B X N M e h a w) :
    ∀ (rs : List ResultVar) (K : List V → Prop), resVs tt rs e h K → ∃ (vs : List V) (cvs : List Value), K vs ∧ vs.length = cvs.length ∧ (∀ (i : Nat) (v : V), vs[i]? = some v → ∃ c, cvs[i]? = some c ∧ rep w M h v c) ∧
      (rs.mapM (fun r => (match r with
        | .tmp t => pure (a.tmps.getD t Go.undef)
        | .cell x t => do loadVar t (← asAddr (a.tmps.getD x Go.undef)) : Sem Value))).run P w = .ok cvs w
  | [], K, H => ⟨[], [], H, rfl, fun i v h => by simp at h, rfl⟩
  | .tmp t :: rs, K, H => by
    obtain ⟨vs, cvs, h1, h2, h3, h4⟩ := res_sound hT R rs _ H
    refine ⟨gt e t :: vs, a.tmps.getD t Go.undef :: cvs, h1, by simp [h2], fun i v hi => ?_, ?_⟩
    · cases i with
      | zero => simp at hi; subst hi; exact ⟨_, rfl, R.env t⟩
      | succ i => simpa using h3 i v (by simpa using hi)
    · simp only [List.mapM_cons, Sem.run_bind, Sem.run_pure, Result.andThen_ok, h4]
  | .cell x t :: rs, K, H => by
    obtain ⟨v, cv, k1, k2, k3⟩ := load_sound hT R.inv (R.env x) H
    obtain ⟨vs, cvs, h1, h2, h3, h4⟩ := res_sound hT R rs _ k1
    refine ⟨v :: vs, cv :: cvs, h1, by simp [h2], fun i u hi => ?_, ?_⟩
    · cases i with
      | zero => simp at hi; subst hi; exact ⟨_, rfl, k2⟩
      | succ i => simpa using h3 i u (by simpa using hi)
    · have hx := R.env x
      have : ∃ ad, a.tmps.getD x Go.undef = .pointer (some ad) := by
        have H : loadV tt t (gt e x) h _ := H
        unfold loadV at H
        split at H
        · exact H.elim
        · split at H
          · rename_i y hy; rw [hy] at hx; obtain ⟨b, o, ces, e1, _⟩ := rep_pX.1 hx; exact ⟨_, e1⟩
          · rename_i hy; rw [hy] at hx; obtain ⟨g, F, _, e1⟩ := rep_pB.1 hx; rw [pbv_lo (BL H).1] at e1; exact ⟨_, e1⟩
          · rename_i hy; rw [hy] at hx; obtain ⟨g, F, _, e1⟩ := rep_pL.1 hx; exact ⟨_, e1⟩
          · exact H.elim
      obtain ⟨ad, had⟩ := this
      have k3' := k3 w (Ext.refl w)
      rw [had] at k3'
      simp only [Instr.loadAt, Instr.sureAddr, Sem.run_bind, Sem.run_pure, Result.andThen_ok] at k3'
      have ha : (asAddr (a.tmps.getD x Go.undef)).run P w = .ok ad w := by rw [had]; rfl
      simp only [List.mapM_cons, Sem.run_bind, Sem.run_pure, Result.andThen_ok, h4, ha, k3']

/-! ### from a function's code to its contract -/
mutual
/-- what is known of data in memory -/
def wfD : D → Prop
  | .int k n => inR k n
  | .bool _ => True
  | .str s => s.size ≤ maxLen
  | .st fs => wfDs fs
  | .lst xs => xs.length ≤ maxLen ∧ wfDs xs
  | .hole _ _ _ => True
  | .fnv _ => True
def wfDs : List D → Prop
  | [] => True
  | x :: xs => wfD x ∧ wfDs xs
end
mutual
theorem repD_wf {O : List Nat} {w : World} : ∀ (x : D) (cs : List Value), repD O w x cs → wfD x
  | .int k n, cs, h => h.2
  | .bool b, cs, h => trivial
  | .str s, cs, h => h.2
  | .hole _ _ _, cs, h => trivial
  | .fnv _, cs, h => trivial
  | .lst xs, cs, h => by
    obtain ⟨a, cap, n, h1, h2, h3, h4, h5⟩ := h
    exact ⟨Nat.le_trans h2 h3, repDe_wf xs 0 h5⟩
  | .st fs, cs, h => repDs_wf fs cs h
theorem repDs_wf {O : List Nat} {w : World} : ∀ (fs : List D) (cs : List Value), repDs O w fs cs → wfDs fs
  | [], cs, h => trivial
  | f :: fs, cs, h => by
    obtain ⟨c1, c2, e, h1, h2⟩ := h
    exact ⟨repD_wf f c1 h1, repDs_wf fs c2 h2⟩
theorem repDe_wf {O : List Nat} {w : World} {a : Option Addr} {n : Nat} : ∀ (xs : List D) (i : Nat), repDe O w a n xs i → wfDs xs
  | [], i, h => trivial
  | x :: xs, i, h => by
    obtain ⟨⟨b, o, ces, e, h1, h2, h3, h4, h5⟩, h6⟩ := h
    exact ⟨repD_wf x ces h5, repDe_wf xs (i + 1) h6⟩
end
def wfV : V → Prop
  | .d x => wfD x
  | .pX x => wfD x
  | _ => True
def wfVs : List V → Prop
  | [] => True
  | v :: vs => wfV v ∧ wfVs vs
theorem repT_wf {w : World} {M : MM} {h : List Blk} : ∀ (vs : List V) (cs : List Value), repT w M h vs cs → wfVs vs
  | [], _, _ => trivial
  | v :: vs, cs, H => by
    obtain ⟨c, cs', rfl, h1, h2⟩ := H
    refine ⟨?_, repT_wf vs cs' h2⟩
    have := rep1_cells h1
    cases v <;> first
      | trivial
      | exact repD_wf _ _ this
      | (obtain ⟨_, _, ces, _, _, _, _, hr⟩ := this; exact repD_wf _ _ hr)
def argE : Nat → List V → Env
  | _, [] => []
  | i, v :: vs => (i, v) :: argE (i + 1) vs
theorem argE_get (i : Nat) : ∀ (vs : List V) (k : Nat), gt (argE i vs) k = if i ≤ k then (match vs[k - i]? with | some v => v | none => .top) else .top := by
  intro vs
  induction vs generalizing i with
  | nil => intro k; simp [argE, gt]
  | cons v vs ih =>
    intro k
    rw [argE, gt_cons]
    by_cases hk : i = k
    · subst hk; simp
    · rw [if_neg hk, ih]
      by_cases hle : i ≤ k
      · rw [if_pos (by omega), if_pos hle]
        have : k - i = (k - (i + 1)) + 1 := by omega
        rw [this, List.getElem?_cons_succ]
      · rw [if_neg (by omega), if_neg hle]
def retQ (tt : TT) (rs : List ResultVar) (v : V) (bs : List Blk) : Post
  | .normal => fun e h => retV tt rs e h fun va => RetOK h va v bs
  | .ret => fun e h => retV tt rs e h fun va => RetOK h va v bs
  | .exit _ => fun _ _ => False
theorem run_results {P : Program} {fn : Func} {tmps : Array Value} {w : World} {cvs : List Value}
    (h : (fn.results.toList.mapM (fun r => (match r with
        | .tmp t => pure (tmps.getD t Go.undef)
        | .cell x t => do loadVar t (← asAddr (tmps.getD x Go.undef)) : Sem Value))).run P w = .ok cvs w) :
    (results fn tmps).run P w = .ok (match cvs with | [c] => c | cvs => .tuple cvs.toArray) w := by
  unfold results
  rw [Array.mapM_eq_mapM_toList, Sem.run_bind, Sem.run_map]
  refine (congrArg (fun r => Result.andThen (Result.andThen r _) _) h).trans ?_
  simp only [Result.andThen_ok, Sem.run_pure]
  match cvs with
  | [] => rfl
  | [c] => rfl
  | c :: d :: r => simp
theorem pc_intro {P : Program} {tt : TT} (hT : TOk P tt) (hm : P.follows .mixedOrders = true) {f : FuncId} {fn : Func} {c : Code} (hf : P.funcs[f]? = some fn) (hb : fn.body = some c) (hname : (fn.name == "runtime.NumGoroutine") = false)
    (hN : codeB fn.ntmps c = true) {As : List V} (hA : Nat.ble As.length fn.ntmps = true) {v : V} {bs : List Blk}
    (H : wfVs As → wpC P tt c (retQ tt fn.results.toList v bs) (argE 0 As) [.gone]) : PC P f As v bs := by
  refine ⟨⟨fn, hf, hname, by rw [hb]; rfl⟩, fun w X args hX1 hX2 hargs => ?_⟩
  have hlen : ∀ (vs : List V) (cs : List Value), repT w [mX X] [.gone] vs cs → cs.length = vs.length := by
    intro vs
    induction vs with
    | nil => intro cs H; cases H; rfl
    | cons v vs ih => intro cs H; obtain ⟨c, cs', rfl, _, h2⟩ := H; simp [ih _ h2]
  have hl := hlen As args hargs
  have hA' := Nat.le_of_ble_eq_true hA
  have hO : MM.O [mX X] = X := by rw [O_one, mO_mX]
  have R : Rep w X fn.ntmps [mX X] (argE 0 As) [.gone] { tmps := args.toArray ++ Array.replicate (fn.ntmps - args.toArray.size) Go.undef, defers := [] } w := {
    ext := Ext.refl w
    inv := ⟨rfl, fun b k m hk hm => by
        cases b with
        | zero => simp at hk; subst hk; trivial
        | succ b => simp at hk, by rw [hO]; exact hX1, fun b k m hk hm hl => by
        cases b with
        | zero => simp at hk; subst hk; cases hl
        | succ b => simp at hk, by rw [hO]; exact hX2⟩
    env := fun k => by
      rw [argE_get, if_pos (Nat.zero_le _), Nat.sub_zero]
      split
      · rename_i v hv
        obtain ⟨cc, k1, k2⟩ := repT_get As args k v hargs hv
        have hk : k < args.length := (List.getElem?_eq_some_iff.1 k1).1
        have : (args.toArray ++ Array.replicate (fn.ntmps - args.toArray.size) Go.undef).getD k Go.undef = cc := by
          rw [Array.getD_eq_getD_getElem?, Array.getElem?_append_left (by simpa using hk)]
          simp [k1]
        dsimp only
        rw [this]
        exact rep_of_rep1 k2
      · trivial
    sz := by simp; omega
    df := rfl
    fr := rfl
    fh := rfl }
  refine calls_of_wp hf hb (wp_mono (code_sound hT hm c _ _ _ _ _ _ hN (H (repT_wf _ _ hargs)) R) fun x a' w' hx => ?_)
  have fin : ∀ (e : Env) (h : List Blk) (M : MM), retV tt fn.results.toList e h (fun va => RetOK h va v bs) → Rep w X fn.ntmps M e h a' w' →
      a'.defers = [] ∧ ∃ cv, (results fn a'.tmps).run P w' = .ok cv w' ∧ ∃ cv' M', Ending.returned cv = .returned cv' ∧ Ext w w' ∧ MInv w.heap.size w' (mX X :: M') (.gone :: bs) ∧ rep w' (mX X :: M') (.gone :: bs) v cv' := by
    intro e h M hr R'
    obtain ⟨vs, cvs, h1, h2, h3, h4⟩ := res_sound hT R' _ _ hr
    refine ⟨R'.df, _, run_results h4, ?_⟩
    match vs, cvs, h2 with
    | [va], [cv], _ =>
      obtain ⟨c', k1, k2⟩ := h3 0 va rfl
      cases k1
      obtain ⟨M', q1, q2⟩ := ret_sound R' k2 h1
      exact ⟨cv, M', rfl, R'.ext, q1, q2⟩
    | [], [], _ =>
      obtain ⟨M', q1, q2⟩ := ret_sound R' (va := .tup []) (cv := .tuple #[]) ⟨[], rfl, rfl⟩ h1
      exact ⟨_, M', rfl, R'.ext, q1, q2⟩
    | va :: vb :: vs, ca :: cb :: cvs, h2 =>
      dsimp only at h1
      cases hok : okTs (va :: vb :: vs) with
      | false => rw [hok] at h1; exact h1.elim
      | true =>
        rw [hok] at h1
        simp only [cond_true] at h1
        have hall : ∀ (vs : List V) (cs : List Value), vs.length = cs.length → okTs vs = true → (∀ (i : Nat) (v : V), vs[i]? = some v → ∃ c, cs[i]? = some c ∧ rep w' M h v c) → repT w' M h vs cs := by
          intro vs
          induction vs with
          | nil => intro cs hl _ _; cases cs with
            | nil => rfl
            | cons _ _ => simp at hl
          | cons v vs ih =>
            intro cs hl ho hg
            cases cs with
            | nil => simp at hl
            | cons c cs =>
              simp only [okTs, Bool.and_eq_true] at ho
              obtain ⟨c', k1, k2⟩ := hg 0 v rfl
              cases k1
              exact ⟨c, cs, rfl, rep1_of_rep ho.1 k2, ih cs (by simpa using hl) ho.2 fun i u hi => by simpa using hg (i + 1) u (by simpa using hi)⟩
        obtain ⟨M', q1, q2⟩ := ret_sound R' (va := .tup (va :: vb :: vs)) (cv := .tuple (ca :: cb :: cvs).toArray) ⟨_, rfl, hall _ _ h2 hok h3⟩ h1
        exact ⟨_, M', rfl, R'.ext, q1, q2⟩
  cases x with
  | normal => obtain ⟨e, h, M, k1, k2⟩ := hx; exact fin e h M k1 k2
  | ret => obtain ⟨e, h, M, k1, k2⟩ := hx; exact fin e h M k1 k2
  | exit id => obtain ⟨e, h, M, k1, k2⟩ := hx; exact k1.elim
  | goto l => exact hx.elim
  | panic c => exact hx.elim
  | outgrown => exact hx.elim
#print axioms pc_intro
end Go.Proofs.YtcachhipflibkaaGreat

/- The abstract machine, sixteenth part: how a table of types is checked. Leans on no program. -/
set_option linter.unusedSimpArgs false
set_option linter.unusedVariables false
namespace Go.Proofs.YtcachhipflibkaaGreat
open Go.RowKit

mutual
/-- the cells of a zero value -/
def zcV : V → List Value
  | .d (.int k n) => [.int k n]
  | .d (.bool b) => [.bool b]
  | .d (.str s) => [.string s]
  | .nils => [.slice none 0 0]
  | .nilp => [.pointer none]
  | .st fs => zcVs fs
  | _ => []
def zcVs : List V → List Value
  | [] => []
  | f :: fs => zcV f ++ zcVs fs
end
mutual
def zokV : V → Bool
  | .d (.int k n) => decide (k.min ≤ n) && decide (n ≤ k.max)
  | .d (.bool _) => true
  | .d (.str s) => Nat.beq s.size 0
  | .nils => true
  | .nilp => true
  | .st fs => zokVs fs
  | _ => false
def zokVs : List V → Bool
  | [] => true
  | f :: fs => zokV f && zokVs fs
end
def zVal (v : V) : Value := if v.isAgg then .agg (zcV v).toArray else (zcV v).headD Go.undef
mutual
theorem zc_rep {w : World} {M : MM} {h : List Blk} : ∀ v : V, zokV v = true → repC w M h v (zcV v)
  | .d (.int k n), H => by
    simp only [zokV, Bool.and_eq_true, decide_eq_true_eq] at H
    exact ⟨rfl, H⟩
  | .d (.bool b), _ => rfl
  | .d (.str s), H => by
    simp only [zokV, nbeq] at H
    exact ⟨rfl, by omega⟩
  | .nils, _ => rfl
  | .nilp, _ => rfl
  | .st fs, H => zcs_rep fs H
  | .d (.st _), H => by cases H
  | .d (.lst _), H => by cases H
  | .d (.hole _ _ _), H => by cases H
  | .d (.fnv _), H => by cases H
  | .top, H => by cases H
  | .undef, H => by cases H
  | .own _ _ _, H => by cases H
  | .pB _ _ _, H => by cases H
  | .pL _ _ _ _, H => by cases H
  | .pX _, H => by cases H
  | .fn _ _, H => by cases H
  | .tup _, H => by cases H
theorem zcs_rep {w : World} {M : MM} {h : List Blk} : ∀ vs : List V, zokVs vs = true → repCs w M h vs (zcVs vs)
  | [], _ => rfl
  | v :: vs, H => by
    simp only [zokVs, Bool.and_eq_true] at H
    exact ⟨_, _, rfl, zc_rep v H.1, zcs_rep vs H.2⟩
end
theorem zVal_rep {w : World} {M : MM} {h : List Blk} (v : V) (H : zokV v = true) : rep1 w M h v (zVal v) := by
  have hr := zc_rep (w := w) (M := M) (h := h) v H
  unfold rep1 zVal
  split
  · exact ⟨_, rfl, hr⟩
  · have hl := repC_len v _ hr
    have : (zcV v).length = 1 := by
      rw [hl]
      cases v with
      | d x => cases x <;> first | rfl | cases H
      | st _ => rename_i h; exact absurd rfl h
      | _ => first | rfl | cases H
    match hz : zcV v, this with
    | [c], _ => rw [hz] at hr; exact hr
def tkOf : TypeDesc → TK
  | .int k => .int k
  | .bool => .bool
  | .string => .str
  | .pointer e => .ptr e
  | .slice e => .sl e
  | .struct fs => .strct (fs.toList.map (fun f => (f.offset, f.type)))
  | .array n e => .ar n e
  | .func _ _ _ => .fn
  | _ => .other
theorem tk_ok {d : TypeDesc} {k : TK} (h : tkOf d = k) (hk : k ≠ .other) : TK.ok d k := by
  subst h
  cases d <;> first
    | exact absurd rfl hk
    | trivial
    | rfl
    | exact ⟨rfl, rfl⟩
def tiB (i : TI) : Bool := zokV i.zero && Nat.beq i.zero.size i.size && (i.agg || Nat.beq i.size 1) && (match i.kind with | .other => false | _ => true)
def eqChk (P : Program) (t : Nat) (i : TI) : Bool := bif i.eq then !P.stoodInHeld t && !P.eqGuardType P.depth t && ((P.fieldsOf t).toList.all fun f => f.name != "_") else true
theorem TIok.of {P : Program} {t : Nat} {i : TI} (h1 : ((P.info? t).map fun f => (f.size, f.bytes, f.zero)) = some (i.size, i.bytes, some (zVal i.zero))) (h2 : (P.underlying t).map tkOf = some i.kind) (h3 : tiB i = true) (h4 : eqChk P t i = true) : TIok P t i := by
  obtain ⟨f, hf, hf'⟩ := Option.map_eq_some_iff.1 h1
  obtain ⟨d, hd, hd'⟩ := Option.map_eq_some_iff.1 h2
  simp only [Prod.mk.injEq] at hf'
  obtain ⟨f1, f2, f3⟩ := hf'
  simp only [tiB, Bool.and_eq_true, nbeq, Bool.or_eq_true] at h3
  obtain ⟨⟨⟨z1, z2⟩, z3⟩, z4⟩ := h3
  refine ⟨⟨f, d, zVal i.zero, hf, f1, f2, f3, hd, tk_ok hd' ?_, fun w M h => zVal_rep _ z1, ?_, fun ha => ?_⟩, fun he => ?_⟩
  · intro e; rw [e] at z4; cases z4
  · have hr := rep1_cells (zVal_rep (w := default) (M := []) (h := []) i.zero z1)
    have := repC_len _ _ hr
    rw [Array.length_toList] at this
    rw [this, z2]
  · rcases z3 with z3 | z3
    · rw [ha] at z3; cases z3
    · exact z3
  · unfold eqChk at h4
    rw [he] at h4
    simp only [cond_true, Bool.and_eq_true, Bool.not_eq_true'] at h4
    exact ⟨h4.1.1, h4.1.2, h4.2⟩
def isStruct : Option TypeDesc → Bool
  | some (.struct _) => true
  | _ => false
theorem TIok.ofB {P : Program} {t e : Nat} {i : TI} (h1 : ((P.info? t).map fun f => (f.size, f.bytes, f.zero)) = some (i.size, i.bytes, some (zVal i.zero))) (h2 : isStruct (P.underlying t) = true) (hk : i.kind = .bld e) (h3 : (zokV i.zero && Nat.beq i.zero.size i.size) = true) (h4 : i.eq = false) : TIok P t i := by
  obtain ⟨f, hf, hf'⟩ := Option.map_eq_some_iff.1 h1
  simp only [Prod.mk.injEq] at hf'
  obtain ⟨f1, f2, f3⟩ := hf'
  simp only [Bool.and_eq_true, nbeq] at h3
  obtain ⟨z1, z2⟩ := h3
  cases hd : P.underlying t with
  | none => rw [hd] at h2; cases h2
  | some d =>
    rw [hd] at h2
    cases d <;> first
      | (cases h2; done)
      | skip
    refine ⟨⟨f, _, zVal i.zero, hf, f1, f2, f3, hd, by rw [hk]; exact trivial, fun w M h => zVal_rep _ z1, ?_, fun ha => ?_⟩, fun he => ?_⟩
    · have hr := rep1_cells (zVal_rep (w := default) (M := []) (h := []) i.zero z1)
      have := repC_len _ _ hr
      rw [Array.length_toList] at this
      rw [this, z2]
    · exfalso; unfold TI.agg at ha; rw [hk] at ha; cases ha
    · rw [h4] at he; cases he
inductive TTree where
  | leaf
  | node (l : TTree) (k : Nat) (v : TI) (r : TTree)
def TTree.find : TTree → Nat → Option TI
  | .leaf, _ => none
  | .node l k v r, t => bif Nat.beq t k then some v else bif Nat.ble t k then l.find t else r.find t
def TTree.all (P : Program) : TTree → Prop
  | .leaf => True
  | .node l k v r => l.all P ∧ TIok P k v ∧ r.all P
theorem TTree.ok {P : Program} : ∀ {tr : TTree}, tr.all P → TOk P tr.find
  | .leaf, _, t, i, h => by cases h
  | .node l k v r, H, t, i, h => by
    simp only [TTree.find] at h
    cases hb : Nat.beq t k with
    | true =>
      rw [hb] at h
      cases h
      have := Nat.eq_of_beq_eq_true hb
      subst this
      exact H.2.1
    | false =>
      rw [hb] at h
      simp only [cond_false] at h
      cases hc : Nat.ble t k with
      | true => rw [hc] at h; exact TTree.ok H.1 t i h
      | false => rw [hc] at h; exact TTree.ok H.2.2 t i h
end Go.Proofs.YtcachhipflibkaaGreat

/- The abstract machine, seventeenth part: the steps of a proof; an order for a region; a slice that is nil taken as one's own. Leans on no program. -/
set_option linter.unusedSimpArgs false
set_option linter.unusedVariables false
namespace Go.Proofs.YtcachhipflibkaaGreat
open Go.RowKit

/-! ### stops -/
theorem ArW.i64 {raw : Int} {K : Int → Prop} (h : -9223372036854775808 ≤ raw ∧ raw ≤ 9223372036854775807) (H : K raw) : ArW .i64 raw K := ⟨raw, (IntWalk.i64_in _ h).symm, H⟩
theorem ArW.u8 {raw : Int} {K : Int → Prop} (h : 0 ≤ raw ∧ raw ≤ 255) (H : K raw) : ArW .u8 raw K := ⟨raw, (IntWalk.u8_in _ h).symm, H⟩
theorem ArW.u64 {raw : Int} {K : Int → Prop} (h : 0 ≤ raw ∧ raw ≤ 18446744073709551615) (H : K raw) : ArW .u64 raw K := ⟨raw, by simp only [IntKind.wrap, IntKind.bits, IntKind.signed, Bool.false_and, Bool.false_eq_true, if_false, Int.reducePow]; omega, H⟩
theorem ArW.u32 {raw : Int} {K : Int → Prop} (h : 0 ≤ raw ∧ raw ≤ 4294967295) (H : K raw) : ArW .u32 raw K := ⟨raw, by simp only [IntKind.wrap, IntKind.bits, IntKind.signed, Bool.false_and, Bool.false_eq_true, if_false, Int.reducePow]; omega, H⟩
theorem ShW.at {p q : Int} {K : Int → Prop} (h : q = p) (hq : 0 < q) (H : K q) : ShW p K := ⟨q, h, hq, H⟩
theorem EqW.at {a b : Nat} {K : Prop} (h : a = b) (H : K) : EqW a b K := ⟨h, H⟩
theorem StW.at {xs : List D} {K : ByteArray → Prop} {s : ByteArray} (h : xs = s.data.toList.map bD) (H : K s) : StW xs K := ⟨s, h, H⟩
theorem ArW.i64e {raw : Int} (z : Int) {K : Int → Prop} (e : raw = z) (h : -9223372036854775808 ≤ z ∧ z ≤ 9223372036854775807) (H : K z) : ArW .i64 raw K := by subst e; exact ArW.i64 h H
theorem ArW.u64e {raw : Int} (z : Int) {K : Int → Prop} (e : raw = z) (h : 0 ≤ z ∧ z ≤ 18446744073709551615) (H : K z) : ArW .u64 raw K := by subst e; exact ArW.u64 h H
theorem ArW.u8e {raw : Int} (z : Int) {K : Int → Prop} (e : raw = z) (h : 0 ≤ z ∧ z ≤ 255) (H : K z) : ArW .u8 raw K := by subst e; exact ArW.u8 h H
theorem ArW.any {k : IntKind} {raw : Int} {K : Int → Prop} (H : K (k.wrap raw)) : ArW k raw K := ⟨_, rfl, H⟩
theorem NzW.mk' {b : Int} {K : Prop} (h : b ≠ 0) (H : K) : NzW b K := ⟨h, H⟩
theorem IxW.at {i : Int} {xs : List D} {K : D → Prop} {y : D} (h0 : 0 ≤ i) (hy : xs[i.toNat]? = some y) (H : K y) : IxW i xs K := ⟨y, h0, hy, H⟩
theorem IxW.map {α : Type} {f : α → D} {k : Nat} {ys : List α} {K : D → Prop} {y : α} (hy : ys[k]? = some y) (H : K (f y)) : IxW (k : Int) (ys.map f) K := ⟨f y, by omega, by simp [hy], H⟩
theorem IoW.at {i : Int} {n : Nat} {K : Nat → Prop} (h0 : 0 ≤ i) (h : i < (n : Int)) (H : K i.toNat) : IoW i n K := ⟨h0, h, H⟩
theorem EoW.at {k : Nat} {xs : List D} {K : D → Prop} {y : D} (hy : xs[k]? = some y) (H : K y) : EoW k xs K := ⟨y, hy, H⟩
theorem ChW.at {i : Int} {s : ByteArray} {K : UInt8 → Prop} {c : UInt8} (h0 : 0 ≤ i) (hc : s[i.toNat]? = some c) (H : K c) : ChW i s K := ⟨c, h0, hc, H⟩
theorem BnW.at {i : Int} {K : Nat → Prop} (h : 0 ≤ i) (H : K i.toNat) : BnW i K := ⟨h, H⟩
theorem SlW.at {l r n : Nat} {K : Prop} (h1 : l ≤ r) (h2 : r ≤ n) (H : K) : SlW l r n K := ⟨h1, h2, H⟩
theorem SzW.at {n : Nat} {xs : List D} {K : Prop} (h : ∀ y ∈ xs, y.size = n) (H : K) : SzW n xs K := ⟨h, H⟩
theorem SzW.map {α : Type} {f : α → D} {n : Nat} {xs : List α} {K : Prop} (h : ∀ y, (f y).size = n) (H : K) : SzW n (xs.map f) K := ⟨by simp [h], H⟩
theorem CatW.at {a b : ByteArray} {K : Prop} (h : a.size + b.size ≤ maxLen) (H : K) : CatW a b K := ⟨h, H⟩
theorem TkW.at {len : Nat} {xs : List D} {K : Prop} (h : len = xs.length) (H : K) : TkW 0 len xs K := ⟨rfl, h, H⟩
theorem ZrW.at {n : Int} {bytes : Nat} {K : Nat → Prop} (h1 : 1 ≤ n) (h2 : n ≤ 4611686018427387904) (h3 : n * bytes ≤ 140737488355328) (H : K n.toNat) : ZrW n bytes K := ⟨h1, h2, h3, H⟩
theorem ZrW.atn {n : Int} {bytes : Nat} {K : Nat → Prop} (k : Nat) (e : n = (k : Int)) (h1 : 1 ≤ k) (h2 : k ≤ 4611686018427387904) (h3 : k * bytes ≤ 140737488355328) (H : K k) : ZrW n bytes K := by
  subst e
  exact ⟨by omega, by omega, by rw [← Int.natCast_mul]; omega, by rw [Int.toNat_natCast]; exact H⟩
theorem MkW.at {n c : Int} {bytes : Nat} {K : Nat → Prop} (h1 : 0 ≤ n) (h2 : n ≤ c) (h3 : bytes * c ≤ 2 ^ 48) (H : K n.toNat) : MkW n c bytes K := ⟨h1, h2, h3, H⟩
theorem ApW.at {n bytes : Nat} {K : Prop} (h1 : n ≤ maxLen) (h2 : n * bytes ≤ 140737488355328) (H : K) : ApW n bytes K := ⟨h1, h2, H⟩
theorem OffW.at {len n : Nat} {K : Prop} (h : len ≤ n) (H : K) : OffW 0 len n K := ⟨rfl, h, H⟩
theorem FlW.map {α : Type} {f : α → D} {n : Nat} {xs : List α} {K K' : Prop} (h : ∀ y, (f y).flat = true ∧ (f y).size = n) (H : K) : FlW (xs.map f) n K K' := ⟨.inl ⟨by simp [h], H⟩⟩
theorem FlW.mapX {α : Type} {f : α → D} {n : Nat} {xs : List α} {K K' : Prop} (h : ∀ y, (f y).size = n) (H : K') : FlW (xs.map f) n K K' := ⟨.inr ⟨by simp [h], H⟩⟩
theorem LtW.at {k n : Nat} {K : Prop} (h : k < n) (H : K) : LtW k n K := ⟨h, H⟩
theorem CallW.use {P : Program} {dr : Bool} {f : FuncId} {vs : List V} {e : Env} {h : List Blk} {K : V → Env → List Blk → Prop} {As : List V} {v : V} {bs : List Blk} (pc : PC P f As v bs) (hb : borVs h vs As)
    (hf : (v.fit (!V.exts vs) && fitBs (!V.exts vs) bs && Nat.ble 1 h.length) = true) (H : K (v.shift (h.length - 1)) e (h ++ shiftBs (h.length - 1) bs)) : CallW P dr f vs e h K := ⟨.inl ⟨As, v, bs, pc, hb, hf, H⟩⟩
theorem RetOK.d {h : List Blk} {va : V} {y : D} (h1 : va.okc = true) (h2 : va.ext = true) (h3 : borD h va y) : RetOK h va (.d y) [] := ⟨[], trivial, by simp, h1, h2, h3⟩
theorem RetOK.t {h : List Blk} {fs gs : List V} (h1 : okTs fs = true) (h3 : rnVs h [] fs gs) : RetOK h (.tup fs) (.tup gs) [] := ⟨[], trivial, by simp, fs, rfl, h1, h3⟩
theorem LoopW.go {α : Type} (mkE : α → Env) (mkH : α → List Blk) (I : α → Prop) (μ : α → Nat) (x0 : α) {F : Post → Env → List Blk → Prop} {Q : Post} {e : Env} {h : List Blk} (hw : Weak e h (mkE x0) (mkH x0)) (hI : I x0)
    (hr : ∀ x, I x → F (loopQ mkE mkH I μ Q x) (mkE x) (mkH x)) : LoopW F Q e h := ⟨α, mkE, mkH, I, μ, fun B X N M a w R => (hw B X N M a w R).elim fun M' R' => ⟨x0, M', R', hI⟩, hr⟩
theorem NextW.go {α : Type} {mkE : α → Env} {mkH : α → List Blk} {I : α → Prop} {μ : α → Nat} {x : α} {e : Env} {h : List Blk} (x' : α) (hw : Weak e h (mkE x') (mkH x')) (hI : I x') (hm : μ x' < μ x) : NextW mkE mkH I μ x e h := ⟨fun B X N M a w R => (hw B X N M a w R).elim fun M' R' => ⟨x', M', R', hI, hm⟩⟩

/-! ### an order for a region that asks for one -/
def depM : List Edge → Nat
  | [] => 0
  | e :: es => bif Region.binds .any e then Nat.lor (Nat.shiftLeft 1 e.on) (depM es) else depM es
def prepO : List Oper → Nat → List (Nat × Bool × Nat)
  | [], _ => []
  | o :: l, i => (i, isQuiet o, depM o.after.toList) :: prepO l (i + 1)
def pickO (done : Nat) (q : Bool) : List (Nat × Bool × Nat) → Option Nat
  | [] => none
  | (i, qi, m) :: r => bif (Nat.beq (Nat.land (Nat.shiftRight done i) 1) 0) && (qi || !q) && Nat.beq (Nat.land m done) m then some i else pickO done q r
def ordF (ps : List (Nat × Bool × Nat)) : Nat → Nat → List Nat
  | 0, _ => []
  | n + 1, done => match pickO done true ps with
    | some i => i :: ordF ps n (Nat.lor done (Nat.shiftLeft 1 i))
    | none => match pickO done false ps with
      | some i => i :: ordF ps n (Nat.lor done (Nat.shiftLeft 1 i))
      | none => []
def ordOf (l : List Oper) : List Nat := ordF (prepO l 0) l.length 0
theorem RegD.auto {P : Program} {tt : TT} {l : List Oper} {K : Env → List Blk → Prop} {e : Env} {h : List Blk} (h1 : ordOK l (ordOf l) = true) (H : seqV P tt true l (ordOf l) K e h) : RegD P tt l K e h := ⟨.inl ⟨_, h1, H⟩⟩
/-- two loud operations in either order -/
theorem RegD.tree {P : Program} {tt : TT} {l : List Oper} {K : Env → List Blk → Prop} {e : Env} {h : List Blk} (h1 : treeOK l (treeOf l) = true) (H : treeV P tt l (treeOf l) K e h) : RegD P tt l K e h := ⟨.inr (.inl ⟨_, h1, H⟩)⟩
/-- all orders end in one state -/
theorem RegD.cut {P : Program} {tt : TT} {l : List Oper} {K : Env → List Blk → Prop} {e : Env} {h : List Blk} (e0 : Env) (h0 : List Blk) (h1 : treeOK l (treeOf l) = true) (H : treeV P tt l (treeOf l) (fun e h => Weak e h e0 h0) e h) (HK : K e0 h0) : RegD P tt l K e h := ⟨.inr (.inr ⟨_, e0, h0, h1, H, HK⟩)⟩

/-! ### a nil slice becomes one of our own -/
theorem Weak.adopt {e : Env} {h : List Blk} {k : Nat} (hk : gt e k = .nils) (n : Nat) (dp : Bool) : Weak e h ((k, .own h.length 0 0) :: e) (h ++ [.arr n [] dp]) := by
  intro B X N M a w R
  have hO : MM.O [none] = [] := rfl
  have mv : Mv (fun _ => True) w M h w (M ++ [none]) (h ++ [.arr n [] dp]) := push_mv R.inv.len (Ext.refl w) R.inv.hi (by rw [hO]; simp)
  have R1 := R.step R.ext (R.inv.push R.base (Ext.refl w) (Mn := [none]) (hn := [.arr n [] dp]) rfl (by rw [hO]; simp) (by rw [hO]; simp) (by rw [hO]; simp) (by
    intro b k m hk hm
    cases b with
    | zero => simp at hk hm; subst hk; subst hm; exact rfl
    | succ b => simp at hk)) mv (fr_push R.fr _) (fr_push R.fh _)
  refine ⟨_, R1.know (rep_own.2 ?_)⟩
  have := R.env k
  rw [hk] at this
  rw [rep_nils.1 this]
  exact ⟨none, 0, rfl, Nat.le_refl _, Nat.zero_le _, fun _ => rfl, .inl rfl⟩
/-- a row of our own is read as an empty one: what stands behind is forgotten -/
theorem Weak.cut0 {e : Env} {h : List Blk} (b : Nat) {n : Nat} {xs : List D} {dp : Bool} (dp' : Bool) (hb : h[b]? = some (.arr n xs dp)) (hb0 : Nat.ble 1 b = true) : Weak e h e (h.set b (.arr n [] dp')) := by
  intro B X N M a w R
  have hbl : b < M.length := by rw [R.inv.len]; exact (List.getElem?_eq_some_iff.1 hb).1
  have hM : M[b]? = some M[b] := List.getElem?_eq_getElem hbl
  have hb1 : b ≠ 0 := by have := Nat.le_of_ble_eq_true hb0; omega
  have hnf : nOf (h.set b (.arr n [] dp')) b = nOf h b := by
    unfold nOf; rw [List.getElem?_set_self (List.getElem?_eq_some_iff.1 hb).1, hb]
  generalize M[b] = m0 at hM
  cases m0 with
  | none =>
    obtain ⟨M', R', -⟩ := R.reset (w' := w) (m' := none) (k' := .arr n [] dp') R.ext hM hb1 hb (.inl rfl) [] [] (by simp) (by simp) (by simp) (by simp) (by simp [mO]) (by simp [mO]) (by simp [mO]) (Nat.le_refl _) (fun _ _ _ => rfl) rfl (by intro _ g F q; cases q) (fun _ _ _ => rfl)
    simp only [dropE, dropK, goneL] at R'
    exact ⟨M', R'⟩
  | some gF =>
    obtain ⟨g, F⟩ := gF
    obtain ⟨arr, t, q1, q2, q3⟩ := R.inv.blk b _ _ hb hM
    have hgi : g ∈ M.O := mem_O hM (by simp [mO])
    obtain ⟨M', R', -⟩ := R.reset (w' := w) (m' := some (g, [])) (k' := .arr n [] dp') R.ext hM hb1 hb (.inl rfl) [] [] (by simp) (by simp) (by simp) (by simp) (by simp [mO]) (by simp [mO]) (by simpa [mO] using R.inv.hi g hgi) (Nat.le_refl _) (fun _ _ _ => rfl) rfl
      (by intro _ g' F' q; cases q; exact ⟨⟨[], rfl⟩, hnf, fun arr t h => ⟨arr, h, rfl⟩⟩)
      (fun M' h' _ => ⟨arr, t, q1, by simp, by cases dp' <;> simp [ownDe, extDe]⟩)
    simp only [dropE, dropK, goneL] at R'
    exact ⟨M', R'⟩
/-- something is known of a slot -/
theorem Weak.same {e : Env} {h : List Blk} {k : Nat} {v : V} (hk : gt e k = v) : Weak e h ((k, v) :: e) h := fun B X N M a w R => ⟨M, R.know (by rw [← hk]; exact R.env k)⟩
/-! the same goal again: tells the kind of a stop -/
theorem ArW.id {k : IntKind} {raw : Int} {K : Int → Prop} (H : ArW k raw K) : ArW k raw K := H
theorem NzW.id {b : Int} {K : Prop} (H : NzW b K) : NzW b K := H
theorem IxW.id {i : Int} {xs : List D} {K : D → Prop} (H : IxW i xs K) : IxW i xs K := H
theorem IoW.id {i : Int} {len : Nat} {K : Nat → Prop} (H : IoW i len K) : IoW i len K := H
theorem EoW.id {k : Nat} {xs : List D} {K : D → Prop} (H : EoW k xs K) : EoW k xs K := H
theorem ChW.id {i : Int} {s : ByteArray} {K : UInt8 → Prop} (H : ChW i s K) : ChW i s K := H
theorem NlW.id {n : Nat} {A B : Prop} (H : NlW n A B) : NlW n A B := H
theorem NlW.mk' {n : Nat} {A B A' B' : Prop} (h1 : n = 0 → A') (h2 : B') (w1 : A' → A := by (intro H; (conv => whnf); exact H)) (w2 : B' → B := by (intro H; (conv => whnf); exact H)) : NlW n A B := ⟨fun h => w1 (h1 h), w2 h2⟩
theorem BnW.id {i : Int} {K : Nat → Prop} (H : BnW i K) : BnW i K := H
theorem SlW.id {l r n : Nat} {K : Prop} (H : SlW l r n K) : SlW l r n K := H
theorem LtW.id {k n : Nat} {K : Prop} (H : LtW k n K) : LtW k n K := H
theorem TkW.id {off len : Nat} {xs : List D} {K : Prop} (H : TkW off len xs K) : TkW off len xs K := H
theorem OffW.id {off len n : Nat} {K : Prop} (H : OffW off len n K) : OffW off len n K := H
theorem RegD.id {P : Program} {tt : TT} {l : List Oper} {K : Env → List Blk → Prop} {e : Env} {h : List Blk} (H : RegD P tt l K e h) : RegD P tt l K e h := H
theorem ShW.id {p : Int} {K : Int → Prop} (H : ShW p K) : ShW p K := H
theorem EqW.id {a b : Nat} {K : Prop} (H : EqW a b K) : EqW a b K := H
theorem StW.id {xs : List D} {K : ByteArray → Prop} (H : StW xs K) : StW xs K := H
theorem SzW.id {n : Nat} {xs : List D} {K : Prop} (H : SzW n xs K) : SzW n xs K := H
theorem CatW.id {a b : ByteArray} {K : Prop} (H : CatW a b K) : CatW a b K := H
theorem ZrW.id {n : Int} {bytes : Nat} {K : Nat → Prop} (H : ZrW n bytes K) : ZrW n bytes K := H
theorem MkW.id {n c : Int} {bytes : Nat} {K : Nat → Prop} (H : MkW n c bytes K) : MkW n c bytes K := H
theorem ApW.id {n bytes : Nat} {K : Prop} (H : ApW n bytes K) : ApW n bytes K := H
theorem FlW.id {xs : List D} {n : Nat} {K K' : Prop} (H : FlW xs n K K') : FlW xs n K K' := H
theorem RetOK.id {h : List Blk} {va v : V} {bs : List Blk} (H : RetOK h va v bs) : RetOK h va v bs := H
theorem CallW.id {P : Program} {dr : Bool} {f : FuncId} {vs : List V} {e : Env} {h : List Blk} {K : V → Env → List Blk → Prop} (H : CallW P dr f vs e h K) : CallW P dr f vs e h K := H
end Go.Proofs.YtcachhipflibkaaGreat

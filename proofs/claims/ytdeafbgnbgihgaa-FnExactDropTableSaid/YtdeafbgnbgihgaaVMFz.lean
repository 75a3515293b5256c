/- The abstract machine: a row of one's own is read alone from now on. Leans on no program. -/
import Derived.Test.YtdeafbgnbgihgaaVMIn
set_option linter.unusedSimpArgs false
set_option linter.unusedVariables false
namespace Go.Proofs.Ytdeafbgnbgihgaa
open Go.RowKit

theorem Weak.freeze {e : Env} {h : List Blk} (k : Nat) {b n off len : Nat} {xs : List D} {dp : Bool} (hk : gt e k = .own b off len) (hb : h[b]? = some (.arr n xs dp)) (hb0 : Nat.ble 1 b = true) (hl : off + len ≤ xs.length) :
    Weak e h ((k, .d (.lst ((xs.drop off).take len))) :: dropE [b] e) ((dropK [b] h).set b (.arr n [] true)) := fun B X N M a w R => by
  have hb1 := Nat.le_of_ble_eq_true hb0
  have hr := R.env k
  rw [hk] at hr
  obtain ⟨M', R', hd⟩ := R.give (by omega) hb hl (rep_own.1 hr)
  exact ⟨M', R'.know (rep_of_rep1 (v := .d (.lst ((xs.drop off).take len))) hd)⟩
/-- all of a row -/
theorem Weak.freezeA {e : Env} {h : List Blk} (k : Nat) {b n len : Nat} {xs : List D} {dp : Bool} (hk : gt e k = .own b 0 len) (hb : h[b]? = some (.arr n xs dp)) (hb0 : Nat.ble 1 b = true) (hl : len = xs.length) :
    Weak e h ((k, .d (.lst xs)) :: dropE [b] e) ((dropK [b] h).set b (.arr n [] true)) := by
  have := Weak.freeze k hk hb hb0 (by omega)
  rwa [List.drop_zero, List.take_of_length_le (by omega)] at this
theorem V.kills_isDs (x : Nat) : ∀ {vs : List V}, (∀ v ∈ vs, ∃ y, v = .d y) → V.kills x vs = vs
  | [], _ => rfl
  | v :: vs, h => by
    obtain ⟨y, rfl⟩ := h v (by simp)
    rw [V.kills, V.kills_isDs x (fun v hv => h v (by simp [hv]))]
    rfl
/-- the first of several results -/
theorem Weak.freezeT {e : Env} {h : List Blk} (k : Nat) {b n len : Nat} {xs : List D} {dp : Bool} {vs : List V} (hk : gt e k = .tup (.own b 0 len :: vs)) (hvs : ∀ v ∈ vs, ∃ y, v = .d y) (hb : h[b]? = some (.arr n xs dp)) (hb0 : Nat.ble 1 b = true) (hl : len = xs.length) :
    Weak e h ((k, .tup (.d (.lst xs) :: vs)) :: dropE [b] e) ((dropK [b] h).set b (.arr n [] true)) := fun B X N M a w R => by
  have hb1 := Nat.le_of_ble_eq_true hb0
  have hr := R.env k
  rw [hk] at hr
  obtain ⟨cvs, e1, c0, cs, rfl, h1, h2⟩ := hr
  obtain ⟨M', R', hd⟩ := R.give (by omega) hb (off := 0) (len := len) (by omega) (rep_own.1 (rep_of_rep1 h1))
  rw [List.drop_zero, List.take_of_length_le (by omega)] at hd
  refine ⟨M', R'.know ⟨_, e1, c0, cs, rfl, rep1_of_rep rfl (rep_of_rep1 (v := .d (.lst xs)) hd), ?_⟩⟩
  have h3 := R'.env k
  rw [gt_drop, hk] at h3
  obtain ⟨cvs', e2, c0', cs', rfl, _, h4⟩ := h3
  rw [e1] at e2
  have e3 : c0 :: cs = c0' :: cs' := by
    injection e2 with e2
    exact List.toArray_inj e2
  injection e3 with e4 e5
  subst e5
  have : V.kills b vs = vs := V.kills_isDs b hvs
  rw [this] at h4
  exact h4
/-- a contract says less -/
theorem PC.weak {P : Program} {f : FuncId} {As : List V} {v v' : V} {bs bs' : List Blk} (pc : PC P f As v bs) (hw : Weak [(0, v)] (.gone :: bs) [(0, v')] (.gone :: bs')) : PC P f As v' bs' where
  fn := pc.fn
  run w X args h1 h2 h3 := by
    refine (pc.run w X args h1 h2 h3).mono ?_
    rintro en w' ⟨cv, M', rfl, hx, hI, hr⟩
    have R : Rep w X 1 (mX X :: M') [(0, v)] (.gone :: bs) { tmps := #[cv], defers := [] } w' := ⟨hx, hI, fun k => by
      rw [gt_cons]
      by_cases hk : 0 = k
      · subst hk; rw [if_pos rfl]; exact hr
      · rw [if_neg hk]; trivial, rfl, rfl, rfl, rfl⟩
    obtain ⟨M2, R2⟩ := hw _ _ _ _ _ _ R
    have hf := R2.fr
    have hl := R2.inv.len
    match M2, hf, R2 with
    | m :: M3, hf, R2 =>
      have hm : m = mX X := by simpa using hf
      subst hm
      exact ⟨cv, M3, rfl, hx, R2.inv, R2.env 0⟩
theorem PC.freeze {P : Program} {f : FuncId} {As : List V} {n len : Nat} {xs : List D} {dp : Bool} (pc : PC P f As (.own 1 0 len) [.arr n xs dp]) (hl : len = xs.length) : PC P f As (.d (.lst xs)) [] :=
  pc.weak (Weak.trans (Weak.freezeA 0 rfl rfl rfl hl) (Weak.cov ⟨rfl, trivial⟩ ⟨trivial, trivial⟩ rfl))
theorem PC.freezeT {P : Program} {f : FuncId} {As : List V} {n len : Nat} {xs : List D} {dp : Bool} {vs : List V} (pc : PC P f As (.tup (.own 1 0 len :: vs)) [.arr n xs dp]) (hvs : ∀ v ∈ vs, ∃ y, v = .d y) (hs : V.scs [.gone] vs = true) (hl : len = xs.length) : PC P f As (.tup (.d (.lst xs) :: vs)) [] :=
  pc.weak (Weak.trans (Weak.freezeT 0 rfl hvs rfl rfl hl) (Weak.cov ⟨rfl, trivial⟩ ⟨trivial, trivial⟩ (by
    show (V.scs [.gone] (.d (.lst xs) :: vs) && true && true && true) = true
    rw [V.scs, hs]; rfl)))
end Go.Proofs.Ytdeafbgnbgihgaa

/- The abstract machine: append of fresh zeros to nil. Leans on no program. -/
import Derived.Test.YtdeafbgnbgihgaaVMApp
import Derived.Lib.AppendZerosOnto
set_option linter.unusedSimpArgs false
set_option linter.unusedVariables false
namespace Go.Proofs.Ytdeafbgnbgihgaa
open Go.RowKit

structure ZrW (n : Int) (bytes : Nat) (K : Nat → Prop) : Prop where
  ex : 1 ≤ n ∧ n ≤ 4611686018427387904 ∧ n * bytes ≤ 140737488355328 ∧ K n.toNat
def zrV (tt : TT) (t : Nat) (s : V) (n : Int) (h : List Blk) (K : V → List Blk → Prop) : Prop :=
  match tt t, s with
  | some { kind := .sl el, .. }, .nils => match tt el with
    | some ie => bif Nat.ble 1 ie.size then (match zD ie.zero with
      | some z => ZrW n ie.bytes fun k => K (.own h.length 0 k) (h ++ [.arr ie.size (List.replicate k z) true])
      | none => False) else False
    | none => False
  | _, _ => False
def appW (tt : TT) (t tx : Nat) (s x : V) (e : Env) (h : List Blk) (K : V → Env → List Blk → Prop) : Prop :=
  match tt tx, x with
  | some { kind := .int _, .. }, .d (.int _ n) => zrV tt t s n h fun v h => K v e h
  | _, _ => appV tt t tx s x e h K
section
variable {P : Program} {tt : TT} {B : World} {X : List Nat} {N : Nat} {M : MM} {e : Env} {h : List Blk} {a : Act} {w : World}
theorem zr_sound (hT : TOk P tt) (R : Rep B X N M e h a w) {t tx ty : Nat} {s : V} {cs : Value} {kq kn : IntKind} {n : Int} (hs : rep w M h s cs) (htn : P.underlying tx = some (.int kn)) {K : V → List Blk → Prop} (H : zrV tt t s n h K) :
    ∃ v cv h' M' w', K v h' ∧ (Builtin.append_ #[t, tx] ty #[cs, .int kq n]).run P w = .ok cv w' ∧ Rep B X N M' e h' a w' ∧ rep w' M' h' v cv := by
  unfold zrV at H
  split at H
  · rename_i el sz by' zr eq0 hti
    obtain ⟨fi, d, z, h1, h2, h3, h4, h5, h6, h7, h8, h9⟩ := (hT t _ hti).ex
    cases d <;> first
      | exact (h6 : False).elim
      | skip
    cases (h6 : _ = el)
    split at H
    · rename_i ie hie
      obtain ⟨fe, de, ze, e1, e2, e3, e4, e5, e6, e7, e8, e9⟩ := (hT _ _ hie).ex
      cases hq : Nat.ble 1 ie.size with
      | false => rw [hq] at H; exact H.elim
      | true =>
      rw [hq] at H
      simp only [cond_true] at H
      have hns := Nat.le_of_ble_eq_true hq
      split at H
      · rename_i zd hz
        obtain ⟨⟨k1, k2, k3, H⟩⟩ := H
        cases rep_nils.1 hs
        obtain ⟨k, rfl⟩ : ∃ k : Nat, n = (k : Int) := ⟨n.toNat, by omega⟩
        rw [Int.toNat_natCast] at H
        have zr1 := rep1_cells (e7 w M h)
        obtain ⟨z1, z2⟩ := zD_own _ zd _ hz zr1
        have zsz : ze.cells.toList.length = ie.size := by rw [Array.length_toList]; exact e8
        have zds : zd.size = ie.size := by
          rw [z2, ← repC_len _ _ zr1, zsz]
        have k3' : k * ie.bytes ≤ 140737488355328 := by
          have : ((k * ie.bytes : Nat) : Int) ≤ 140737488355328 := by rw [Int.natCast_mul]; exact k3
          omega
        have hg : 0 < k := by omega
        have hrun := Lib.run_append_grow_zeros (P := P) w t tx ty _ _ _ kq kn h5 htn e1 e4 none 0 0 [] rfl k hg (by rw [e2]; omega) (by omega) (by omega) (by rw [e3]; omega) (by rw [e3]; have := growslice_fits (need := 0 + k) (old := 0) (bytes := ie.bytes) (by omega) (by rw [Nat.zero_add]; exact k3'); exact this)
        have hcapG := grownCap_ge w (0 + k) 0 el
        have hcapM := grownCap_le_maxLen w (0 + k) 0 el (by unfold maxLen; omega)
        generalize grownCap w (0 + k) 0 el = G at hrun hcapG hcapM
        have hat : ∀ i j, i < k → j < ie.size → (#[] ++ Builtin.zeroCells ze.cells k ++ Builtin.zeroCells ze.cells (G - (0 + k)))[i * ie.size + j]? = ze.cells[j]? := fun i j hk hj => by
          have hlt : i * ie.size + j < k * ie.size := by
            have := Nat.mul_le_mul_right ie.size (Nat.succ_le_of_lt hk)
            rw [Nat.succ_mul] at this
            omega
          have hm : (i * ie.size + j) % ze.cells.size = j := by
            rw [e8, Nat.add_comm, Nat.add_mul_mod_self_right, Nat.mod_eq_of_lt hj]
          have hj' : j < ze.cells.size := by omega
          rw [Array.empty_append, Array.getElem?_append_left (by rw [size_zeroCells, e8]; exact hlt)]
          have hm' : j % ie.size = j := Nat.mod_eq_of_lt hj
          simp [Builtin.zeroCells, e8, hlt, hm', getElem!_pos ze.cells j hj']
        have hown : ∀ (m i : Nat), i + m ≤ k → ownDe w (#[] ++ Builtin.zeroCells ze.cells k ++ Builtin.zeroCells ze.cells (G - (0 + k))) ie.size (List.replicate m zd) i [] := by
          intro m
          induction m with
          | zero => intro i _; rfl
          | succ m ih =>
            intro i hi
            refine ⟨[], [], ze.cells.toList, rfl, zds, fun j v hj => ?_, z1, ih (i + 1) (by omega)⟩
            have hjl : j < ie.size := by rw [← zsz]; exact (List.getElem?_eq_some_iff.1 hj).1
            rw [hat i j (by omega) hjl, ← Array.getElem?_toList]
            exact hj
        obtain ⟨M', R', hv⟩ := R.newRow (arr := #[] ++ Builtin.zeroCells ze.cells k ++ Builtin.zeroCells ze.cells (G - (0 + k))) (t := el) (n := ie.size) (cap := G) (xs := List.replicate k zd) (dp := true) (is := []) (ks := []) (F := []) (w1 := w.drew) (Ext.refl w).drew rfl
          (by rw [Array.empty_append, Array.size_append, size_zeroCells, size_zeroCells, e8, ← Nat.add_mul]; congr 1; omega) (by simp; omega) hcapM (by simp) (by simp) (by simp) (by simp)
          (by rw [if_pos rfl]; exact hown k 0 (by omega))
        simp only [dropE, dropK, goneL, set_last, List.length_replicate] at R' hv
        refine ⟨_, _, _, M', _, H, hrun, R', ?_⟩
        rw [Nat.zero_add] at hv ⊢
        exact hv
      · exact H.elim
    · exact H.elim
  · exact H.elim
theorem appW_sound (hT : TOk P tt) (R : Rep B X N M e h a w) {t tx ty : Nat} {s x : V} {cs cx : Value} (hs : rep w M h s cs) (hx : rep w M h x cx) {K : V → Env → List Blk → Prop} (H : appW tt t tx s x e h K) :
    ∃ v cv e' h' M' w', K v e' h' ∧ (Builtin.append_ #[t, tx] ty #[cs, cx]).run P w = .ok cv w' ∧ Rep B X N M' e' h' a w' ∧ rep w' M' h' v cv := by
  unfold appW at H
  split at H
  · rename_i k sz by' zr eq0 kq n hti
    obtain ⟨fi, d, z, h1, h2, h3, h4, h5, h6, h7, h8, h9⟩ := (hT tx _ hti).ex
    cases d <;> first
      | exact (h6 : False).elim
      | skip
    cases (h6 : _ = k)
    obtain ⟨rfl, -⟩ := rep_int.1 hx
    obtain ⟨v, cv, h', M', w', r1, r2, r3, r4⟩ := zr_sound (ty := ty) hT R hs h5 H
    exact ⟨v, cv, e, h', M', w', r1, r2, r3, r4⟩
  · exact app_sound hT R hs hx H
end
end Go.Proofs.Ytdeafbgnbgihgaa

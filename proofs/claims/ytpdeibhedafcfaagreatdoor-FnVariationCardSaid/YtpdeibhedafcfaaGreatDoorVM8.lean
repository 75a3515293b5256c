/- merged: several parts in one text. Leans on no more than they do. -/
import Derived.Test.YtpdeibhedafcfaaGreatDoorVM5
import Derived.Laws.StructEq
set_option linter.unusedSimpArgs false
set_option linter.unusedVariables false
namespace Go.Proofs.YtpdeibhedafcfaaGreatDoor
open Go.RowKit
section
variable {P : Program} {tt : TT} {w : World} {M : MM} {h : List Blk} {K : V → Prop} {B : Nat}
theorem char_sound (hT : TOk P tt) {t : Nat} {x i : V} {cx ci : Value} (hx : rep w M h x cx) (hi : rep w M h i ci) (H : charV tt t x i K) :
  ∃ u cu, K u ∧ rep w M h u cu ∧ ∀ w', (Instr.index t cx ci).run P w' = .ok cu w' := by
 unfold charV at H
 split at H
 ·rename_i sz by' zr eq0 s k i hti
  obtain ⟨fi, d, z, h1, h2, h3, h4, h5, h6, h7, h8, h9⟩ := (hT t _ hti).ex
  obtain ⟨rfl, hri⟩ := rep_int.1 hi
  obtain ⟨rfl, hs⟩ := rep_str.1 hx
  obtain ⟨⟨c, h0, hc, H⟩⟩ := H
  cases d <;> first
   | exact (h6 : False).elim
   | skip
  refine ⟨_, _, H, rep_int.2 ⟨rfl, ?_⟩, fun w' => ?_⟩
  ·have := c.toNat_lt
   simp only [inR, IntKind.min, IntKind.max, IntKind.bits, IntKind.signed]
   simp
   omega
  ·simp only [Instr.index, asIntOf, Sem.run_bind, Sem.run_pure, Result.andThen_ok, run_underlying h5, h0, if_true, hc]
 ·exact H.elim
theorem bnd_sound {o : Option V} {co : Option Value} (ho : match o, co with | none, none => True | some v, some cv => rep w M h v cv | _, _ => False) {d : Nat} {Kn : Nat → Prop} (H : bndV o d Kn) :
  ∃ n, Kn n ∧ ((o = none ∧ co = none ∧ n = d) ∨ ∃ k i, co = some (.int k i) ∧ 0 ≤ i ∧ n = i.toNat) := by
 unfold bndV at H
 split at H
 ·cases co with
  | none => exact ⟨d, H, .inl ⟨rfl, rfl, rfl⟩⟩
  | some c => exact ho.elim
 ·rename_i k i
  cases co with
  | none => exact ho.elim
  | some c =>
   obtain ⟨rfl, _⟩ := rep_int.1 ho
   exact ⟨_, H.ex.2, .inr ⟨k, i, rfl, H.ex.1, rfl⟩⟩
 ·exact H.elim
theorem run_bounds {isS : Bool} {len cap : Nat} {lo hi : Option Value} {l r : Nat} (hr : (hi = none ∧ r = len) ∨ ∃ k i, hi = some (.int k i) ∧ 0 ≤ i ∧ r = i.toNat) (hl : (lo = none ∧ l = 0) ∨ ∃ k i, lo = some (.int k i) ∧ 0 ≤ i ∧ l = i.toNat)
  (h1 : l ≤ r) (h2 : r ≤ len) (h3 : len ≤ cap) (w' : World) : (Instr.sliceBounds isS len cap lo hi none).run P w' = .ok (l, r, cap) w' := by
 have bnd : ∀ (k : IntKind) (i : Int) (y : Nat) (code : BoundsCode), 0 ≤ i → i ≤ (y : Int) → (Instr.sliceBound (.int k i) y code).run P w' = .ok i.toNat w' := fun k i y code q1 q2 => by
  simp [Instr.sliceBound, asIntOf, q1, q2]
 unfold Instr.sliceBounds
 rcases hr with ⟨rfl, rfl⟩ | ⟨k, i, rfl, hi, rfl⟩ <;> rcases hl with ⟨rfl, rfl⟩ | ⟨k', i', rfl, hi', rfl⟩
 ·simp
 ·simp only [Sem.run_bind, Sem.run_pure, Result.andThen_ok, Option.isSome_none, Bool.false_eq_true, if_false]
  rw [bnd _ _ _ _ hi' (by omega)]
  simp
 ·simp only [Sem.run_bind, Sem.run_pure, Result.andThen_ok, Option.isSome_none, Bool.false_eq_true, if_false]
  rw [bnd _ _ _ _ hi (by omega)]
  simp
 ·simp only [Sem.run_bind, Sem.run_pure, Result.andThen_ok, Option.isSome_none, Bool.false_eq_true, if_false]
  rw [bnd _ _ _ _ hi (by omega)]
  simp only [Result.andThen_ok]
  rw [bnd _ _ _ _ hi' (by omega)]
  simp
theorem repDe_slice {O : List Nat} {a : Option Addr} {n : Nat} {xs : List D} {l r : Nat} (H : repDe O w a n xs 0) : repDe O w (a.map (·.add (l * n))) n ((xs.drop l).take (r - l)) 0 := by
 refine (repDe_get _ 0).2 fun i x hx => ?_
 have hi : i < r - l := by
  have := (List.getElem?_eq_some_iff.1 hx).1
  simp at this; omega
 rw [List.getElem?_take, if_pos hi, List.getElem?_drop] at hx
 obtain ⟨b, o, ces, e, h1, h2, h3, h4, h5⟩ := (repDe_get xs 0).1 H _ x hx
 refine ⟨b, o + l * n, ces, by rw [e, Option.map_some, addr_add_plain], h1, h2, ?_, h4, h5⟩
 rw [Nat.zero_add, Nat.add_mul] at h3
 rw [Nat.zero_add, Nat.add_assoc]
 exact h3
theorem slice_sound (hT : TOk P tt) (hI : MInv B w M h) {t : Nat} {x : V} {cx : Value} {lo hi : Option V} {clo chi : Option Value} (hx : rep w M h x cx)
  (hlo : match lo, clo with | none, none => True | some v, some cv => rep w M h v cv | _, _ => False) (hhi : match hi, chi with | none, none => True | some v, some cv => rep w M h v cv | _, _ => False)
  (H : sliceV tt t x lo hi h K) : ∃ u cu, K u ∧ rep w M h u cu ∧ ∀ w', (Instr.sliceAt t cx clo chi none).run P w' = .ok cu w' := by
 have getb : ∀ {len : Nat} {Kf : Nat → Nat → Prop}, bndV hi len (fun r => bndV lo 0 fun l => SlW l r len (Kf l r)) → ∃ l r, (l ≤ r ∧ r ≤ len ∧ Kf l r) ∧ ((chi = none ∧ r = len) ∨ ∃ k i, chi = some (.int k i) ∧ 0 ≤ i ∧ r = i.toNat) ∧ ((clo = none ∧ l = 0) ∨ ∃ k i, clo = some (.int k i) ∧ 0 ≤ i ∧ l = i.toNat) := by
  intro len Kf H
  obtain ⟨r, H, hr⟩ := bnd_sound hhi H
  obtain ⟨l, H, hl⟩ := bnd_sound hlo H
  exact ⟨l, r, H.ex, hr.imp (fun q => q.2) id, hl.imp (fun q => q.2) id⟩
 unfold sliceV at H
 split at H
 ·rename_i sz by' zr eq0 s hti
  obtain ⟨fi, d, z, h1, h2, h3, h4, h5, h6, h7, h8, h9⟩ := (hT t _ hti).ex
  cases d <;> first
   | exact (h6 : False).elim
   | skip
  obtain ⟨rfl, hs⟩ := rep_str.1 hx
  obtain ⟨l, r, ⟨k1, k2, H⟩, hr, hl⟩ := getb H
  refine ⟨_, _, H, rep_str.2 ⟨rfl, by rw [ByteArray.size_extract]; omega⟩, fun w' => ?_⟩
  simp only [Instr.sliceAt, Sem.run_bind, run_underlying h5, Result.andThen_ok, Instr.slice, Option.isSome_none, Bool.false_eq_true, if_false, Sem.run_pure, run_bounds hr hl k1 k2 (Nat.le_refl _)]
 ·rename_i e sz by' zr eq0 b off len hti
  obtain ⟨fi, d, z, h1, h2, h3, h4, h5, h6, h7, h8, h9⟩ := (hT t _ hti).ex
  cases d <;> first
   | exact (h6 : False).elim
   | skip
  cases (h6 : _ = e)
  split at H
  ·rename_i ie hie
   obtain ⟨fe, de, ze, e1, e2, e3, e4, e5, e6, e7, e8, e9⟩ := (hT _ _ hie).ex
   cases hq : Nat.beq (nOf h b) ie.size with
   | false => rw [hq] at H; exact H.elim
   | true =>
    rw [hq] at H
    have hq' := Nat.eq_of_beq_eq_true hq
    obtain ⟨a, cap, rfl, k1, k2, k3, k4⟩ := rep_own.1 hx
    simp only [cond_true] at H
    obtain ⟨l, r, ⟨g1, g2, H⟩, hr, hl⟩ := getb H
    refine ⟨_, .slice (if cap = l then a else a.map (·.add (l * ie.size))) (r - l) (cap - l), H, rep_own.2 ?_, fun w' => (by
     simp only [Instr.sliceAt, Sem.run_bind, run_underlying h5, Result.andThen_ok, Instr.slice, Sem.run_pure, run_bounds hr hl g1 g2 k1, sizeOf, typeInfo, run_program, e1, e2])⟩
    ·refine ⟨_, _, rfl, by omega, by omega, ?_, ?_⟩
     ·split
      ·intro h; omega
      ·intro h
       cases a with
       | none => have := k3 rfl; omega
       | some a => cases h
     ·rcases k4 with k4 | ⟨g, F, arr, t', m1, rfl, m3, m4⟩
      ·exact .inl (by omega)
      ·by_cases hc : cap = l
       ·exact .inl (by omega)
       ·refine .inr ⟨g, F, arr, t', m1, ?_, m3, ?_⟩
        ·rw [if_neg hc, Option.map_some, addr_add_plain, ← hq', ← Nat.add_mul, Nat.add_comm l]
        ·have : l + off + (cap - l) = off + cap := by omega
         rw [this]; exact m4
  ·exact H.elim
 ·rename_i n e sz by' zr eq0 b hti
  obtain ⟨fi, d, z, h1, h2, h3, h4, h5, h6, h7, h8, h9⟩ := (hT t _ hti).ex
  cases d <;> first
   | exact (h6 : False).elim
   | skip
  rename_i n0 e0
  obtain ⟨rfl, rfl⟩ := (show n0 = n ∧ e0 = e from h6)
  split at H
  ·rename_i ie n' xs dp hie hb
   obtain ⟨fe, de, ze, e1, e2, e3, e4, e5, e6, e7, e8, e9⟩ := (hT _ _ hie).ex
   cases hq : (Nat.beq n' ie.size && Nat.ble n0 65536) with
   | false => rw [hq] at H; exact H.elim
   | true =>
    rw [hq] at H
    simp only [Bool.and_eq_true] at hq
    have hq' := Nat.eq_of_beq_eq_true hq.1
    have hq2 := Nat.le_of_ble_eq_true hq.2
    have hq3 : n0 ≤ maxLen := by unfold maxLen; omega
    obtain ⟨⟨hxl, H⟩⟩ := H
    obtain ⟨g, F, m1, rfl⟩ := rep_pL.1 hx
    obtain ⟨arr, t', m2, m3, m4⟩ : ∃ arr t, w.heap[g]? = some (.cells arr t (0, 0)) ∧ xs.length * n' ≤ arr.size ∧ (if dp = true then ownDe w arr n' xs 0 F else F = [] ∧ extDe M.O w arr n' xs 0) := hI.blk b _ _ hb m1
    have hn : nOf h b = n' := by simp [nOf, hb]
    obtain ⟨l, r, ⟨g1, g2, H⟩, hr, hl⟩ := getb H
    refine ⟨_, .slice (some (if n0 = l then ⟨g, 0 * nOf h b + 0, none⟩ else (⟨g, 0 * nOf h b + 0, none⟩ : Addr).add (l * ie.size))) (r - l) (n0 - l), H, rep_own.2 ?_, fun w' => (by
     simp only [Instr.sliceAt, Sem.run_bind, run_underlying h5, Result.andThen_ok, Instr.sureAddr, Sem.run_pure, run_bounds hr hl g1 g2 (Nat.le_refl _), sizeOf, typeInfo, run_program, e1, e2])⟩
    refine ⟨_, _, rfl, by omega, by omega, by simp, ?_⟩
    by_cases hc : n0 = l
    ·exact .inl (by omega)
    ·refine .inr ⟨g, F, arr, t', m1, ?_, m2, ?_⟩
     ·rw [if_neg hc, addr_add_plain, hn, hq']; simp
     ·rw [hn]
      have : l + (n0 - l) = n0 := by omega
      rw [this, ← hxl]; exact m3
  ·exact H.elim
 ·rename_i e sz by' zr eq0 xs hti
  obtain ⟨fi, d, z, h1, h2, h3, h4, h5, h6, h7, h8, h9⟩ := (hT t _ hti).ex
  cases d <;> first
   | exact (h6 : False).elim
   | skip
  cases (h6 : _ = e)
  split at H
  ·rename_i ie hie
   obtain ⟨fe, de, ze, e1, e2, e3, e4, e5, e6, e7, e8, e9⟩ := (hT _ _ hie).ex
   obtain ⟨a, cap, n, rfl, k1, k2, k3, k4⟩ := rep_lst.1 hx
   obtain ⟨l, r, ⟨g1, g2, H⟩, hr, hl⟩ := getb H
   obtain ⟨⟨g3, H⟩⟩ := H
   have hlen : ((xs.drop l).take (r - l)).length = r - l := by simp; omega
   refine ⟨_, .slice (if cap = l then a else a.map (·.add (l * ie.size))) (r - l) (cap - l), H, rep_lst.2 ⟨_, cap - l, n, by rw [hlen], by rw [hlen]; omega, by omega, ?_, ?_⟩, fun w' => ?_⟩
   rotate_left 2
   ·simp only [Instr.sliceAt, Sem.run_bind, run_underlying h5, Result.andThen_ok, Instr.slice, Sem.run_pure, run_bounds hr hl g1 g2 k1, sizeOf, typeInfo, run_program, e1, e2]
   ·split
    ·intro h; omega
    ·intro h
     cases a with
     | none => have := k3 rfl; omega
     | some a => cases h
   ·split
    ·have : (xs.drop l).take (r - l) = [] := by
      have : r - l = 0 := by omega
      rw [this]; rfl
     rw [this]; trivial
    ·cases xs with
     | nil => simp at g2; subst g2; simp [repDe]
     | cons y ys =>
      have hy := g3 y (by simp)
      have hn : n = ie.size := by
       obtain ⟨b, o, ces, e, q1, q2, q3, q4, q5⟩ := (repDe_get _ 0).1 k4 0 y rfl
       rw [← q4]; exact hy
      rw [← hn]
      exact repDe_slice k4
  ·exact H.elim
 ·rename_i e sz by' zr eq0 hti
  obtain ⟨fi, d, z, h1, h2, h3, h4, h5, h6, h7, h8, h9⟩ := (hT t _ hti).ex
  cases d <;> first
   | exact (h6 : False).elim
   | skip
  cases (h6 : _ = e)
  split at H
  ·rename_i ie hie
   obtain ⟨fe, de, ze, e1, e2, e3, e4, e5, e6, e7, e8, e9⟩ := (hT _ _ hie).ex
   cases rep_nils.1 hx
   obtain ⟨l, r, ⟨g1, g2, H⟩, hr, hl⟩ := getb H
   obtain rfl : r = 0 := by omega
   obtain rfl : l = 0 := by omega
   refine ⟨_, _, H, rep_nils.2 rfl, fun w' => ?_⟩
   simp only [Instr.sliceAt, Sem.run_bind, run_underlying h5, Result.andThen_ok, Instr.slice, Sem.run_pure, run_bounds hr hl g1 g2 (Nat.le_refl _), sizeOf, typeInfo, run_program, e1, e2]
   rfl
  ·exact H.elim
 ·exact H.elim
theorem binI_sound {op : BinOp} {k : IntKind} {a b : Int} (ha : inR k a) (H : binI op k a b K) :
  ∃ u cu, K u ∧ rep w M h u cu ∧ ∀ t w', (binOp op t (.int k a) (.int k b)).run P w' = .ok cu w' := by
 unfold binI at H
 split at H
 ·obtain ⟨⟨z, rfl, H⟩⟩ := H
  exact ⟨_, _, H, rep_int.2 ⟨rfl, wrap_inR _ _⟩, fun t w' => by simp [binOp, Op.intArith]⟩
 ·obtain ⟨⟨z, rfl, H⟩⟩ := H
  exact ⟨_, _, H, rep_int.2 ⟨rfl, wrap_inR _ _⟩, fun t w' => by simp [binOp, Op.intArith]⟩
 ·obtain ⟨⟨z, rfl, H⟩⟩ := H
  exact ⟨_, _, H, rep_int.2 ⟨rfl, wrap_inR _ _⟩, fun t w' => by simp [binOp, Op.intArith]⟩
 ·obtain ⟨⟨hb, H⟩⟩ := H
  obtain ⟨⟨z, rfl, H⟩⟩ := H
  exact ⟨_, _, H, rep_int.2 ⟨rfl, wrap_inR _ _⟩, fun t w' => by simp [binOp, Op.intDiv, hb]⟩
 ·obtain ⟨⟨hb, H⟩⟩ := H
  exact ⟨_, _, H, rep_int.2 ⟨rfl, tmod_inR ha⟩, fun t w' => by simp [binOp, Op.intDiv, hb]⟩
 ·obtain ⟨⟨z, rfl, H⟩⟩ := H
  exact ⟨_, _, H, rep_int.2 ⟨rfl, wrap_inR _ _⟩, fun t w' => by simp [binOp, Op.intBits]⟩
 ·obtain ⟨⟨z, rfl, H⟩⟩ := H
  exact ⟨_, _, H, rep_int.2 ⟨rfl, wrap_inR _ _⟩, fun t w' => by simp [binOp, Op.intBits]⟩
 ·obtain ⟨⟨z, rfl, H⟩⟩ := H
  exact ⟨_, _, H, rep_int.2 ⟨rfl, wrap_inR _ _⟩, fun t w' => by simp [binOp, Op.intBits]⟩
 ·exact ⟨_, _, H, rep_bool.2 rfl, fun t w' => by simp [binOp, Op.intCmp]⟩
 ·exact ⟨_, _, H, rep_bool.2 rfl, fun t w' => by simp [binOp, Op.intCmp]⟩
 ·exact ⟨_, _, H, rep_bool.2 rfl, fun t w' => by simp [binOp, Op.intCmp]⟩
 ·exact ⟨_, _, H, rep_bool.2 rfl, fun t w' => by simp [binOp, Op.intCmp]⟩
 ·exact ⟨_, _, H, rep_bool.2 rfl, fun t w' => by simp [binOp, Op.intCmp]⟩
 ·exact ⟨_, _, H, rep_bool.2 rfl, fun t w' => by simp [binOp, Op.intCmp]⟩
 ·exact H.elim
theorem ediv_inR {k : IntKind} {a q : Int} (h : inR k a) (hq : 0 < q) : inR k (a / q) := by
 obtain ⟨z1, z2⟩ := inR_zero k
 obtain ⟨h1, h2⟩ := h
 rcases Int.le_total 0 a with ha | ha
 ·have p1 := Int.ediv_nonneg ha (show 0 ≤ q by omega)
  have p2 := Int.ediv_le_self q ha
  exact ⟨by omega, by omega⟩
 ·have p1 : a / q ≤ 0 := by
   have := Int.ediv_le_ediv hq ha
   rwa [Int.zero_ediv] at this
  have p2 : a ≤ a / q := by
   rw [Int.le_ediv_iff_mul_le hq]
   have : a * q ≤ a * 1 := Int.mul_le_mul_of_nonpos_left ha (by omega)
   omega
  exact ⟨by omega, by omega⟩
theorem sh_sound {op : BinOp} {k k' : IntKind} {a b : Int} {E : Prop} (ha : inR k a) (H : shV op k a b K E) :
  (∃ u cu, K u ∧ rep w M h u cu ∧ ∀ t w', (binOp op t (.int k a) (.int k' b)).run P w' = .ok cu w') ∨ E := by
 unfold shV at H
 split at H
 ·obtain ⟨⟨h0, ⟨⟨q, rfl, hq, ⟨⟨z, rfl, H⟩⟩⟩⟩⟩⟩ := H
  refine .inl ⟨_, _, H, rep_int.2 ⟨rfl, wrap_inR _ _⟩, fun t w' => ?_⟩
  have : ¬ b < 0 := by omega
  simp [binOp, Op.shift, this]
 ·obtain ⟨⟨h0, ⟨⟨q, rfl, hq, H⟩⟩⟩⟩ := H
  refine .inl ⟨_, _, H, rep_int.2 ⟨rfl, ediv_inR ha hq⟩, fun t w' => ?_⟩
  have : ¬ b < 0 := by omega
  have e : a.fdiv (2 ^ min b.toNat k.bits) = a / 2 ^ min b.toNat k.bits := Int.fdiv_eq_ediv_of_nonneg a (by omega)
  simp [binOp, Op.shift, this, e]
 ·exact .inr H
theorem binS_sound {op : BinOp} {a b : ByteArray} (H : binS op a b K) :
  ∃ u cu, K u ∧ rep w M h u cu ∧ ∀ t w', (binOp op t (.string a) (.string b)).run P w' = .ok cu w' := by
 unfold binS at H
 split at H
 ·obtain ⟨⟨hs, H⟩⟩ := H
  refine ⟨_, _, H, rep_str.2 ⟨rfl, by rw [ByteArray.size_append]; exact hs⟩, fun t w' => ?_⟩
  have : ¬ (((a.size + b.size : Nat) : Int) > IntKind.i64.max) := by
   unfold maxLen at hs
   simp only [IntKind.max, IntKind.bits, IntKind.signed, if_true]
   omega
  simp only [binOp, Op.stringOp, this, if_false, Sem.run_pure]
 ·exact ⟨_, _, H, rep_bool.2 rfl, fun t w' => by simp [binOp, Op.stringOp]⟩
 ·exact ⟨_, _, H, rep_bool.2 rfl, fun t w' => by simp only [binOp, Op.stringOp, Sem.run_pure]⟩
 ·exact ⟨_, _, H, rep_bool.2 rfl, fun t w' => by simp only [binOp, Op.stringOp, Sem.run_pure]⟩
 ·exact ⟨_, _, H, rep_bool.2 rfl, fun t w' => by simp only [binOp, Op.stringOp, Sem.run_pure]⟩
 ·exact ⟨_, _, H, rep_bool.2 rfl, fun t w' => by simp only [binOp, Op.stringOp, Sem.run_pure]⟩
 ·exact ⟨_, _, H, rep_bool.2 rfl, fun t w' => by simp only [binOp, Op.stringOp, Sem.run_pure]⟩
 ·exact H.elim
theorem eqE_sound (hT : TOk P tt) {d : Nat} : ∀ (fs : List Field) (as bs : List D) (off : Nat) (ca cb : List Value) (pa pb : List Value) (r : Bool), repDs M.O w as ca → repDs M.O w bs cb → pa.length = off → pb.length = off →
  eqE tt (fs.map fun f => (f.offset, f.type)) off as bs = some r → (fs.all fun f => f.name != "_") = true → ∀ w', (Op.eqFields (d + 1) (pa ++ ca).toArray (pb ++ cb).toArray fs).run P w' = .ok r w'
 | [], [], [], off, ca, cb, pa, pb, r, _, _, _, _, he, _ => fun w' => by
  simp only [List.map_nil, eqE] at he
  cases he
  rfl
 | [], a :: as, bs, off, ca, cb, pa, pb, r, _, _, _, _, he, _ => by simp [eqE] at he
 | [], [], b :: bs, off, ca, cb, pa, pb, r, _, _, _, _, he, _ => by simp [eqE] at he
 | f :: fs, [], bs, off, ca, cb, pa, pb, r, _, _, _, _, he, _ => by simp [eqE] at he
 | f :: fs, a :: as, [], off, ca, cb, pa, pb, r, _, _, _, _, he, _ => by cases a <;> simp [eqE] at he
 | f :: fs, a :: as, b :: bs, off, ca, cb, pa, pb, r, ha, hb, la, lb, he, hn => fun w' => by
  obtain ⟨c1, c2, rfl, a1, a2⟩ := ha
  obtain ⟨d1, d2, rfl, b1, b2⟩ := hb
  simp only [List.all_cons, Bool.and_eq_true, bne_iff_ne] at hn
  have step : ∀ (va vb : Value) (q r' : Bool), c1 = [va] → d1 = [vb] → f.offset = off → (∀ w', (isAgg f.type).run P w' = .ok false w') → (∀ w', (Op.equalIn (d + 1) f.type va vb).run P w' = .ok q w') →
    eqE tt (fs.map fun f => (f.offset, f.type)) (off + 1) as bs = some r' → (Op.eqFields (d + 1) (pa ++ (c1 ++ c2)).toArray (pb ++ (d1 ++ d2)).toArray (f :: fs)).run P w' = .ok (q && r') w' := by
   intro va vb q r' e1 e2 e3 e4 e5 e6
   subst e1
   subst e2
   have ih := eqE_sound hT (d := d) fs as bs (off + 1) c2 d2 (pa ++ [va]) (pb ++ [vb]) r' a2 b2 (by simp [la]) (by simp [lb]) e6 hn.2 w'
   have p1 : (part f.type (pa ++ ([va] ++ c2)).toArray f.offset).run P w' = .ok va w' := by
    simp only [part, Sem.run_bind, e4, Result.andThen_ok, Bool.false_eq_true, if_false, e3, ← la]
    simp
   have p2 : (part f.type (pb ++ ([vb] ++ d2)).toArray f.offset).run P w' = .ok vb w' := by
    simp only [part, Sem.run_bind, e4, Result.andThen_ok, Bool.false_eq_true, if_false, e3, ← lb]
    simp
   simp only [Op.eqFields, if_pos hn.1, Sem.run_bind, p1, p2, e5, Result.andThen_ok]
   cases q
   ·simp
   ·simp only [Bool.not_true, Bool.false_eq_true, if_false, Bool.true_and]
    rw [← ih]
    simp
  have nonagg : ∀ (i : TI), tt f.type = some i → i.agg = false → ∀ w', (isAgg f.type).run P w' = .ok false w' := fun i hi hk w' => by
   obtain ⟨fi, dd, z, h1, h2, h3, h4, h5, h6, h7, h8, h9⟩ := (hT _ i hi).ex
   unfold isAgg
   rw [Sem.run_bind, run_underlying h5]
   unfold TI.agg at hk
   cases dd <;> cases hkk : i.kind <;> rw [hkk] at hk h6 <;> first | exact (h6 : False).elim | rfl | cases hk
  cases a <;> cases b <;> first
   | (simp only [List.map_cons, eqE] at he; done)
   | skip
  all_goals try (simp only [List.map_cons, eqE] at he; cases he; done)
  ·rename_i k x k' y
   simp only [List.map_cons, eqE] at he
   split at he
   ·rename_i kk sz by' zr eq0 hti
    obtain ⟨fi, dd, z, h1, h2, h3, h4, h5, h6, h7, h8, h9⟩ := (hT _ _ hti).ex
    cases hq : (Nat.beq f.offset off && decide (k = k')) with
    | false => rw [hq] at he; cases he
    | true =>
     rw [hq] at he
     simp only [cond_true] at he
     simp only [Bool.and_eq_true, nbeq, decide_eq_true_eq] at hq
     obtain ⟨q1, rfl⟩ := hq
     split at he
     ·rename_i r' hr
      cases he
      obtain ⟨rfl, _⟩ := a1
      obtain ⟨rfl, _⟩ := b1
      cases dd <;> first
       | exact (h6 : False).elim
       | skip
      exact step _ _ _ _ rfl rfl q1 (nonagg _ hti rfl) (fun w' => run_equalIn_int w' d f.type _ _ x y h5) hr
     ·cases he
   ·cases he
  ·rename_i x y
   simp only [List.map_cons, eqE] at he
   split at he
   ·rename_i sz by' zr eq0 hti
    obtain ⟨fi, dd, z, h1, h2, h3, h4, h5, h6, h7, h8, h9⟩ := (hT _ _ hti).ex
    cases hq : Nat.beq f.offset off with
    | false => rw [hq] at he; cases he
    | true =>
     rw [hq] at he
     simp only [cond_true] at he
     split at he
     ·rename_i r' hr
      cases he
      cases a1
      cases b1
      cases dd <;> first
       | exact (h6 : False).elim
       | skip
      exact step _ _ _ _ rfl rfl (Nat.eq_of_beq_eq_true hq) (nonagg _ hti rfl) (fun w' => run_equalIn_bool' w' d f.type x y h5) hr
     ·cases he
   ·cases he
  ·rename_i x y
   simp only [List.map_cons, eqE] at he
   split at he
   ·rename_i sz by' zr eq0 hti
    obtain ⟨fi, dd, z, h1, h2, h3, h4, h5, h6, h7, h8, h9⟩ := (hT _ _ hti).ex
    cases hq : Nat.beq f.offset off with
    | false => rw [hq] at he; cases he
    | true =>
     rw [hq] at he
     simp only [cond_true] at he
     split at he
     ·rename_i r' hr
      cases he
      obtain ⟨rfl, _⟩ := a1
      obtain ⟨rfl, _⟩ := b1
      cases dd <;> first
       | exact (h6 : False).elim
       | skip
      exact step _ _ _ _ rfl rfl (Nat.eq_of_beq_eq_true hq) (nonagg _ hti rfl) (fun w' => run_equalIn_string w' d f.type x y h5) hr
     ·cases he
   ·cases he
theorem ext_mid (pa c1 c2 : List Value) : (pa ++ (c1 ++ c2)).toArray.extract pa.length (pa.length + c1.length) = c1.toArray := by
 rw [List.extract_toArray, List.extract_eq_take_drop]
 simp
theorem eqE2_sound (hT : TOk P tt) {d : Nat} : ∀ (fs : List Field) (as bs : List D) (off : Nat) (ca cb : List Value) (pa pb : List Value) (r : Bool), repDs M.O w as ca → repDs M.O w bs cb → pa.length = off → pb.length = off →
  eqE2 tt (fs.map fun f => (f.offset, f.type)) off as bs = some r → (fs.all fun f => f.name != "_") = true → ∀ w', (Op.eqFields (d + 1 + 1) (pa ++ ca).toArray (pb ++ cb).toArray fs).run P w' = .ok r w'
 | [], [], [], off, ca, cb, pa, pb, r, _, _, _, _, he, _ => fun w' => by
  simp only [List.map_nil, eqE2] at he
  cases he
  rfl
 | [], a :: as, bs, off, ca, cb, pa, pb, r, _, _, _, _, he, _ => by simp [eqE2] at he
 | [], [], b :: bs, off, ca, cb, pa, pb, r, _, _, _, _, he, _ => by simp [eqE2] at he
 | f :: fs, [], bs, off, ca, cb, pa, pb, r, _, _, _, _, he, _ => by simp [eqE2] at he
 | f :: fs, a :: as, [], off, ca, cb, pa, pb, r, _, _, _, _, he, _ => by cases a <;> simp [eqE2] at he
 | f :: fs, a :: as, b :: bs, off, ca, cb, pa, pb, r, ha, hb, la, lb, he, hn => fun w' => by
  obtain ⟨c1, c2, rfl, a1, a2⟩ := ha
  obtain ⟨d1, d2, rfl, b1, b2⟩ := hb
  simp only [List.all_cons, Bool.and_eq_true, bne_iff_ne] at hn
  have gen : ∀ (va vb : Value) (q r' : Bool) (n : Nat), c1.length = n → d1.length = n → (part f.type (pa ++ (c1 ++ c2)).toArray f.offset).run P w' = .ok va w' → (part f.type (pb ++ (d1 ++ d2)).toArray f.offset).run P w' = .ok vb w' → (Op.equalIn (d + 1 + 1) f.type va vb).run P w' = .ok q w' →
    eqE2 tt (fs.map fun f => (f.offset, f.type)) (off + n) as bs = some r' → (Op.eqFields (d + 1 + 1) (pa ++ (c1 ++ c2)).toArray (pb ++ (d1 ++ d2)).toArray (f :: fs)).run P w' = .ok (q && r') w' := by
   intro va vb q r' n l1 l2 p1 p2 e5 e6
   have ih := eqE2_sound hT (d := d) fs as bs (off + n) c2 d2 (pa ++ c1) (pb ++ d1) r' a2 b2 (by simp [la, l1]) (by simp [lb, l2]) e6 hn.2 w'
   simp only [Op.eqFields, if_pos hn.1, Sem.run_bind, p1, p2, e5, Result.andThen_ok]
   cases q
   ·simp
   ·simp only [Bool.not_true, Bool.false_eq_true, if_false, Bool.true_and]
    rw [← ih]
    simp
  have step : ∀ (va vb : Value) (q r' : Bool), c1 = [va] → d1 = [vb] → f.offset = off → (∀ w', (isAgg f.type).run P w' = .ok false w') → (∀ w', (Op.equalIn (d + 1 + 1) f.type va vb).run P w' = .ok q w') →
    eqE2 tt (fs.map fun f => (f.offset, f.type)) (off + 1) as bs = some r' → (Op.eqFields (d + 1 + 1) (pa ++ (c1 ++ c2)).toArray (pb ++ (d1 ++ d2)).toArray (f :: fs)).run P w' = .ok (q && r') w' := by
   intro va vb q r' e1 e2 e3 e4 e5 e6
   subst e1
   subst e2
   refine gen va vb q r' 1 rfl rfl ?_ ?_ (e5 w') e6
   ·simp only [part, Sem.run_bind, e4, Result.andThen_ok, Bool.false_eq_true, if_false, e3, ← la]
    simp
   ·simp only [part, Sem.run_bind, e4, Result.andThen_ok, Bool.false_eq_true, if_false, e3, ← lb]
    simp
  have nonagg : ∀ (i : TI), tt f.type = some i → i.agg = false → ∀ w', (isAgg f.type).run P w' = .ok false w' := fun i hi hk w' => by
   obtain ⟨fi, dd, z, h1, h2, h3, h4, h5, h6, h7, h8, h9⟩ := (hT _ i hi).ex
   unfold isAgg
   rw [Sem.run_bind, run_underlying h5]
   unfold TI.agg at hk
   cases dd <;> cases hkk : i.kind <;> rw [hkk] at hk h6 <;> first | exact (h6 : False).elim | rfl | cases hk
  cases a <;> cases b <;> first
   | (simp only [List.map_cons, eqE2] at he; done)
   | skip
  all_goals try (simp only [List.map_cons, eqE2] at he; cases he; done)
  ·rename_i k x k' y
   simp only [List.map_cons, eqE2] at he
   split at he
   ·rename_i kk sz by' zr eq0 hti
    obtain ⟨fi, dd, z, h1, h2, h3, h4, h5, h6, h7, h8, h9⟩ := (hT _ _ hti).ex
    cases hq : (Nat.beq f.offset off && decide (k = k')) with
    | false => rw [hq] at he; cases he
    | true =>
     rw [hq] at he
     simp only [cond_true] at he
     simp only [Bool.and_eq_true, nbeq, decide_eq_true_eq] at hq
     obtain ⟨q1, rfl⟩ := hq
     split at he
     ·rename_i r' hr
      cases he
      obtain ⟨rfl, _⟩ := a1
      obtain ⟨rfl, _⟩ := b1
      cases dd <;> first
       | exact (h6 : False).elim
       | skip
      exact step _ _ _ _ rfl rfl q1 (nonagg _ hti rfl) (fun w' => run_equalIn_int w' (d + 1) f.type _ _ x y h5) hr
     ·cases he
   ·cases he
  ·rename_i x y
   simp only [List.map_cons, eqE2] at he
   split at he
   ·rename_i sz by' zr eq0 hti
    obtain ⟨fi, dd, z, h1, h2, h3, h4, h5, h6, h7, h8, h9⟩ := (hT _ _ hti).ex
    cases hq : Nat.beq f.offset off with
    | false => rw [hq] at he; cases he
    | true =>
     rw [hq] at he
     simp only [cond_true] at he
     split at he
     ·rename_i r' hr
      cases he
      cases a1
      cases b1
      cases dd <;> first
       | exact (h6 : False).elim
       | skip
      exact step _ _ _ _ rfl rfl (Nat.eq_of_beq_eq_true hq) (nonagg _ hti rfl) (fun w' => run_equalIn_bool' w' (d + 1) f.type x y h5) hr
     ·cases he
   ·cases he
  ·rename_i x y
   simp only [List.map_cons, eqE2] at he
   split at he
   ·rename_i sz by' zr eq0 hti
    obtain ⟨fi, dd, z, h1, h2, h3, h4, h5, h6, h7, h8, h9⟩ := (hT _ _ hti).ex
    cases hq : Nat.beq f.offset off with
    | false => rw [hq] at he; cases he
    | true =>
     rw [hq] at he
     simp only [cond_true] at he
     split at he
     ·rename_i r' hr
      cases he
      obtain ⟨rfl, _⟩ := a1
      obtain ⟨rfl, _⟩ := b1
      cases dd <;> first
       | exact (h6 : False).elim
       | skip
      exact step _ _ _ _ rfl rfl (Nat.eq_of_beq_eq_true hq) (nonagg _ hti rfl) (fun w' => run_equalIn_string w' (d + 1) f.type x y h5) hr
     ·cases he
   ·cases he
  ·rename_i xs ys
   simp only [List.map_cons, eqE2] at he
   split at he
   ·rename_i gs n by' zr hti
    obtain ⟨fi, dd, z, h1, h2, h3, h4, h5, h6, h7, h8, h9⟩ := (hT _ _ hti).ex
    obtain ⟨g1, g2, g3⟩ := (hT _ _ hti).eqs rfl
    cases hq : (Nat.beq f.offset off && (Nat.beq (D.sizes xs) n && Nat.beq (D.sizes ys) n)) with
    | false => rw [hq] at he; cases he
    | true =>
     rw [hq] at he
     simp only [cond_true] at he
     simp only [Bool.and_eq_true, nbeq] at hq
     obtain ⟨q1, q2, q3⟩ := hq
     split at he
     ·rename_i q hqq
      split at he
      ·rename_i r' hr
       cases he
       cases dd <;> first
        | exact (h6 : False).elim
        | skip
       rename_i fds
       have hff : P.fieldsOf f.type = fds := by simp [Program.fieldsOf, h5]
       have h5' : P.underlying f.type = some (.struct (P.fieldsOf f.type)) := by rw [hff]; exact h5
       have h6' : fds.toList.map (fun f => (f.offset, f.type)) = gs := h6
       rw [← h6'] at hqq
       rw [hff] at g3
       have a1' : repDs M.O w xs c1 := a1
       have b1' : repDs M.O w ys d1 := b1
       have l1 : c1.length = n := by rw [repDs_len xs c1 a1']; exact q2
       have l2 : d1.length = n := by rw [repDs_len ys d1 b1']; exact q3
       have hag : (isAgg f.type).run P w' = .ok true w' := by
        unfold isAgg
        rw [Sem.run_bind, run_underlying h5]
        rfl
       refine gen (.agg c1.toArray) (.agg d1.toArray) q r' n l1 l2 ?_ ?_ ?_ hr
       ·simp only [part, Sem.run_bind, hag, Result.andThen_ok, if_true, sizeOf, typeInfo, Sem.run_pure, run_program, h1, h2]
        rw [q1, ← la, ← l1, ext_mid]
       ·simp only [part, Sem.run_bind, hag, Result.andThen_ok, if_true, sizeOf, typeInfo, Sem.run_pure, run_program, h1, h2]
        rw [q1, ← lb, ← l2, ext_mid]
       ·rw [run_equalIn_agg w' (d + 1) f.type _ _ h5' g1, hff]
        exact eqE_sound hT (d := d) fds.toList xs ys 0 c1 d1 [] [] q a1' b1' rfl rfl hqq g3 w'
      ·cases he
     ·cases he
   ·cases he
theorem rep_st {ds : List D} {cv : Value} : rep w M h (.d (.st ds)) cv ↔ ∃ cs : List Value, cv = .agg cs.toArray ∧ repDs M.O w ds cs := by
 show rep1 w M h (.d (.st ds)) cv ↔ _
 unfold rep1
 rw [if_pos (show (V.d (D.st ds)).isAgg = true from rfl)]
 rfl
theorem nl_sound (hT : TOk P tt) {op : BinOp} {t n : Nat} {a : Option Addr} {c : Nat} (ha : a = none → n = 0) (H : nlV tt op t n K) :
  ∃ u cu, K u ∧ rep w M h u cu ∧ ∀ (ox oy : Operand) w', (do eqGuard op t ox oy (.slice a n c) (.slice none 0 0); binOp op t (.slice a n c) (.slice none 0 0) : Sem Value).run P w' = .ok cu w' := by
 unfold nlV at H
 split at H
 ·rename_i e sz by' zr eq0 hti
  obtain ⟨fi, d, z, h1, h2, h3, h4, h5, h6, h7, h8, h9⟩ := (hT t _ hti).ex
  cases d <;> first
   | exact (h6 : False).elim
   | skip
  have he : ∀ w', (Op.equal t (.slice a n c) (.slice none 0 0)).run P w' = .ok a.isNone w' := fun w' => by
   rw [Op.equal, show Op.maxDepth = 9999 + 1 from rfl, Op.equalIn]
   simp only [Sem.run_bind, run_underlying h5, Result.andThen_ok]
   cases a <;> rfl
  split at H
  ·obtain ⟨⟨H1, H2⟩⟩ := H
   cases a with
   | none => exact ⟨_, _, H1 (ha rfl), rep_bool.2 rfl, fun ox oy w' => by
     rw [Sem.run_bind, show (eqGuard .eql t ox oy (.slice none n c) (.slice none 0 0)).run P w' = .ok () w' from rfl]
     simp only [binOp, Result.andThen_ok, Sem.run_bind, Sem.run_pure, he]; rfl⟩
   | some a => exact ⟨_, _, H2, rep_bool.2 rfl, fun ox oy w' => by
     rw [Sem.run_bind, show (eqGuard .eql t ox oy (.slice (some a) n c) (.slice none 0 0)).run P w' = .ok () w' from rfl]
     simp only [binOp, Result.andThen_ok, Sem.run_bind, Sem.run_pure, he]; rfl⟩
  ·obtain ⟨⟨H1, H2⟩⟩ := H
   cases a with
   | none => exact ⟨_, _, H1 (ha rfl), rep_bool.2 rfl, fun ox oy w' => by
     rw [Sem.run_bind, show (eqGuard .neq t ox oy (.slice none n c) (.slice none 0 0)).run P w' = .ok () w' from rfl]
     simp only [binOp, Result.andThen_ok, Sem.run_bind, Sem.run_pure, he]; rfl⟩
   | some a => exact ⟨_, _, H2, rep_bool.2 rfl, fun ox oy w' => by
     rw [Sem.run_bind, show (eqGuard .neq t ox oy (.slice (some a) n c) (.slice none 0 0)).run P w' = .ok () w' from rfl]
     simp only [binOp, Result.andThen_ok, Sem.run_bind, Sem.run_pure, he]; rfl⟩
  ·exact H.elim
 ·exact H.elim
theorem dsOf_rep : ∀ (vs : List V) (ys : List D) (cs : List Value), dsOf vs = some ys → repCs w M h vs cs → repDs M.O w ys cs
 | [], ys, cs, H, R => by cases H; exact R
 | v :: vs, ys, cs, H, R => by
  cases v <;> simp only [dsOf] at H <;> first
   | (cases H; done)
   | skip
  rename_i x
  split at H
  ·rename_i ys' hy
   cases H
   obtain ⟨c1, c2, e, r1, r2⟩ := R
   exact ⟨c1, c2, e, r1, dsOf_rep vs ys' c2 hy r2⟩
  ·cases H
theorem toD_rep {v : V} {cv : Value} (H : rep w M h v cv) : rep w M h v.toD cv := by
 cases v with
 | st fs =>
  show rep w M h (match dsOf fs with | some ds => .d (.st ds) | none => .st fs) cv
  split
  ·rename_i ds hd
   have H1 : rep1 w M h (.st fs) cv := H
   unfold rep1 at H1
   rw [if_pos (show (V.st fs).isAgg = true from rfl)] at H1
   obtain ⟨cs, e, k⟩ := H1
   refine rep_of_rep1 (v := .d (.st ds)) ?_
   unfold rep1
   rw [if_pos (show (V.d (.st ds)).isAgg = true from rfl)]
   exact ⟨cs, e, dsOf_rep fs ds cs hd k⟩
  ·exact H
 | _ => exact H
theorem bin_sound (hT : TOk P tt) {op : BinOp} {t : Nat} {x y : V} {cx cy : Value} (hx : rep w M h x cx) (hy : rep w M h y cy) (H : binV tt op t x y K) :
  ∃ u cu, K u ∧ rep w M h u cu ∧ ∀ (ox oy : Operand) w', (do eqGuard op t ox oy cx cy; binOp op t cx cy : Sem Value).run P w' = .ok cu w' := by
 have guard : ∀ (ox oy : Operand) w', (∀ q, cx ≠ .agg q) → cx ≠ .nilIface → (eqGuard op t ox oy cx cy).run P w' = .ok () w' := by
  intro ox oy w' q1 q2
  cases op <;> cases cx <;> first
   | exact (q1 _ rfl).elim
   | exact (q2 rfl).elim
   | rfl
 unfold binV at H
 split at H
 ·rename_i k a k' b
  obtain ⟨rfl, ha⟩ := rep_int.1 hx
  obtain ⟨rfl, hb⟩ := rep_int.1 hy
  rcases sh_sound (P := P) (w := w) (M := M) (h := h) (k' := k') ha H with ⟨u, cu, h1, h2, h3⟩ | H2
  ·exact ⟨u, cu, h1, h2, fun ox oy w' => by rw [Sem.run_bind, guard ox oy w' (fun _ h => by cases h) (fun h => by cases h)]; exact h3 t w'⟩
  cases hq : decide (k = k') with
  | false => rw [hq] at H2; exact H2.elim
  | true =>
   rw [hq] at H2
   have := of_decide_eq_true hq
   subst this
   obtain ⟨u, cu, h1, h2, h3⟩ := binI_sound (P := P) (w := w) (M := M) (h := h) ha H2
   exact ⟨u, cu, h1, h2, fun ox oy w' => by rw [Sem.run_bind, guard ox oy w' (fun _ h => by cases h) (fun h => by cases h)]; exact h3 t w'⟩
 ·rename_i a b
  obtain ⟨rfl, ha⟩ := rep_str.1 hx
  obtain ⟨rfl, hb⟩ := rep_str.1 hy
  obtain ⟨u, cu, h1, h2, h3⟩ := binS_sound (P := P) (w := w) (M := M) (h := h) H
  exact ⟨u, cu, h1, h2, fun ox oy w' => by rw [Sem.run_bind, guard ox oy w' (fun _ h => by cases h) (fun h => by cases h)]; exact h3 t w'⟩
 ·rename_i a b
  cases rep_bool.1 hx
  cases rep_bool.1 hy
  cases hq : isBool (tt t) with
  | false => rw [hq] at H; exact H.elim
  | true =>
   rw [hq] at H
   have hd : P.underlying t = some .bool := by
    unfold isBool at hq
    split at hq
    ·rename_i sz by' zr eq0 hti
     obtain ⟨fi, d, z, h1, h2, h3, h4, h5, h6, h7, h8, h9⟩ := (hT t _ hti).ex
     cases d <;> first
      | exact (h6 : False).elim
      | exact h5
    ·cases hq
   have he : ∀ w', (Op.equal t (.bool a) (.bool b)).run P w' = .ok (a == b) w' := fun w' => by
    rw [Op.equal, show Op.maxDepth = 9999 + 1 from rfl, Op.equalIn]
    simp only [Sem.run_bind, run_underlying hd, Result.andThen_ok, Sem.run_pure]
   simp only [cond_true] at H
   split at H
   ·exact ⟨_, _, H, rep_bool.2 rfl, fun ox oy w' => by
     rw [Sem.run_bind, guard ox oy w' (fun _ h => by cases h) (fun h => by cases h)]
     simp only [binOp, Result.andThen_ok, Sem.run_bind, Sem.run_pure, he]⟩
   ·exact ⟨_, _, H, rep_bool.2 rfl, fun ox oy w' => by
     rw [Sem.run_bind, guard ox oy w' (fun _ h => by cases h) (fun h => by cases h)]
     simp only [binOp, Result.andThen_ok, Sem.run_bind, Sem.run_pure, he]⟩
   ·exact H.elim
 ·rename_i as bs
  obtain ⟨ca, rfl, ha⟩ := rep_st.1 hx
  obtain ⟨cb, rfl, hb⟩ := rep_st.1 hy
  split at H
  ·rename_i fs sz by' zr hti
   obtain ⟨fi, d, z, h1, h2, h3, h4, h5, h6, h7, h8, h9⟩ := (hT t _ hti).ex
   obtain ⟨g1, g2, g3⟩ := (hT t _ hti).eqs rfl
   cases d <;> first
    | exact (h6 : False).elim
    | skip
   rename_i fds
   have hff : P.fieldsOf t = fds := by simp [Program.fieldsOf, h5]
   have h5' : P.underlying t = some (.struct (P.fieldsOf t)) := by rw [hff]; exact h5
   have h6' : fds.toList.map (fun f => (f.offset, f.type)) = fs := h6
   split at H
   ·rename_i r hr
    rw [← h6'] at hr
    rw [hff] at g3
    have he : ∀ w', (Op.equalIn 10000 t (.agg ca.toArray) (.agg cb.toArray)).run P w' = .ok r w' := fun w' => by
     rw [show (10000 : Nat) = 9997 + 1 + 1 + 1 from rfl, run_equalIn_agg w' (9997 + 1 + 1) t _ _ h5' g1, hff]
     exact eqE2_sound hT (d := 9997) fds.toList as bs 0 ca cb [] [] r ha hb rfl rfl hr g3 w'
    split at H
    ·exact ⟨_, _, H, rep_bool.2 rfl, fun ox oy w' => by
      rw [Sem.run_bind, run_eqGuard_agg w' _ t ox oy _ _ g2, Result.andThen_ok, run_eql_struct, he]
      rfl⟩
    ·exact ⟨_, _, H, rep_bool.2 rfl, fun ox oy w' => by
      rw [Sem.run_bind, run_eqGuard_agg w' _ t ox oy _ _ g2, Result.andThen_ok, run_neq_struct, he]
      rfl⟩
    ·exact H.elim
   ·exact H.elim
  ·exact H.elim
 ·obtain ⟨a, cap, n, rfl, q1, q2, q3, q4⟩ := rep_lst.1 hx
  cases rep_nils.1 hy
  exact nl_sound hT (fun e => by have := q3 e; omega) H
 ·obtain ⟨a, cap, rfl, q1, q2, q3, q4⟩ := rep_own.1 hx
  cases rep_nils.1 hy
  exact nl_sound hT (fun e => by have := q3 e; omega) H
 ·cases rep_nils.1 hx
  cases rep_nils.1 hy
  exact nl_sound hT (fun _ => rfl) H
 ·exact H.elim
theorem un_sound {op : UnOp} {x : V} {cx : Value} (hx : rep w M h x cx) (H : unV op x K) : ∃ u cu, K u ∧ rep w M h u cu ∧ ∀ w', (Op.unary op cx).run P w' = .ok cu w' := by
 unfold unV at H
 split at H
 ·cases rep_bool.1 hx
  exact ⟨_, _, H, rep_bool.2 rfl, fun w' => by simp [Op.unary]⟩
 ·obtain ⟨rfl, ha⟩ := rep_int.1 hx
  obtain ⟨⟨z, rfl, H⟩⟩ := H
  exact ⟨_, _, H, rep_int.2 ⟨rfl, wrap_inR _ _⟩, fun w' => by simp [Op.unary, Op.intArith]⟩
 ·exact H.elim
theorem conv_sound (hT : TOk P tt) {s d : Nat} {x : V} {cx : Value} (hs : (P.underlying s).isSome = true) (hx : rep w M h x cx) (H : convV tt d x K) : ∃ u cu, K u ∧ rep w M h u cu ∧ ∀ w', (convert s d cx).run P w' = .ok cu w' := by
 obtain ⟨sd, hsd⟩ := Option.isSome_iff_exists.1 hs
 unfold convV at H
 split at H
 ·rename_i k sz by' zr eq0 k' n hti
  obtain ⟨fi, d', z, h1, h2, h3, h4, h5, h6, h7, h8, h9⟩ := (hT d _ hti).ex
  cases d' <;> first
   | exact (h6 : False).elim
   | skip
  cases (h6 : _ = k)
  obtain ⟨rfl, ha⟩ := rep_int.1 hx
  obtain ⟨⟨z, rfl, H⟩⟩ := H
  exact ⟨_, _, H, rep_int.2 ⟨rfl, wrap_inR _ _⟩, fun w' => by
   simp only [convert, Sem.run_bind, run_underlying hsd, run_underlying h5, Result.andThen_ok]
   rfl⟩
 ·rename_i sz by' zr eq0 s' hti
  obtain ⟨fi, d', z, h1, h2, h3, h4, h5, h6, h7, h8, h9⟩ := (hT d _ hti).ex
  cases d' <;> first
   | exact (h6 : False).elim
   | skip
  obtain ⟨rfl, ha⟩ := rep_str.1 hx
  exact ⟨_, _, H, rep_str.2 ⟨rfl, ha⟩, fun w' => by
   simp only [convert, Sem.run_bind, run_underlying hsd, run_underlying h5, Result.andThen_ok]
   cases sd <;> rfl⟩
 ·exact H.elim
theorem own_cell1 {arr : Array Value} {c : UInt8} : ∀ (xs : List D) (i : Nat) (F : List Nat), ownDe w arr 1 xs i F → ∀ k, xs[k]? = some (bD c) → arr[i + k]? = some (.int .u8 (c.toNat : Int))
 | [], _, _, _, k, hk => by simp at hk
 | x :: s, i, F, H, k, hk => by
  obtain ⟨F1, F2, ces, rfl, h1, h2, h3, h4⟩ := H
  cases k with
  | zero =>
   simp at hk
   subst hk
   obtain ⟨-, rfl, -⟩ := h3
   have := h2 0 _ rfl
   simpa using this
  | succ k =>
   have := own_cell1 s (i + 1) F2 h4 k (by simpa using hk)
   rw [show i + (k + 1) = i + 1 + k by omega, this]
theorem ext_cell1 {O : List Nat} {arr : Array Value} {c : UInt8} : ∀ (xs : List D) (i : Nat), extDe O w arr 1 xs i → ∀ k, xs[k]? = some (bD c) → arr[i + k]? = some (.int .u8 (c.toNat : Int))
 | [], _, _, k, hk => by simp at hk
 | x :: s, i, H, k, hk => by
  obtain ⟨⟨ces, h1, h2, h3⟩, h4⟩ := H
  cases k with
  | zero =>
   simp at hk
   subst hk
   obtain ⟨rfl, -⟩ := h3
   have := h2 0 _ rfl
   simpa using this
  | succ k =>
   have := ext_cell1 s (i + 1) h4 k (by simpa using hk)
   rw [show i + (k + 1) = i + 1 + k by omega, this]
theorem strOf_bytes (s : ByteArray) : strOfNums (s.data.toList.map fun c => (c.toNat : Int)) = s := by
 unfold strOfNums
 apply ByteArray.ext
 apply Array.toList_inj.1
 simp only [List.map_map]
 rw [show ((fun n : Int => UInt8.ofNat n.toNat) ∘ fun c : UInt8 => (c.toNat : Int)) = id from by funext c; simp]
 simp
theorem bytes_sound (hI : MInv B w M h) {s d u : Nat} (hs : P.underlying s = some (.slice u)) (hu : P.underlying u = some (.int .u8)) (hd : P.underlying d = some .string) {x : V} {cx : Value} (hx : rep w M h x cx) {K : ByteArray → Prop}
  (H : bytesV x h K) : ∃ r : ByteArray, K r ∧ r.size ≤ maxLen ∧ ∀ w', Ext w w' → (convert s d cx).run P w' = .ok (.string r) w' := by
 unfold bytesV at H
 split at H
 ·cases rep_nils.1 hx
  exact ⟨_, H, Nat.zero_le _, fun w' _ => run_convert_bytes_nil w' s u hs hu 0 0 d hd⟩
 ·rename_i xs
  obtain ⟨⟨r, rfl, H⟩⟩ := H
  obtain ⟨a, cap, n, rfl, k1, k2, k3, k4⟩ := rep_lst.1 hx
  have hl : (r.data.toList.map bD).length = r.size := by rw [List.length_map]; rfl
  rw [hl] at k1 ⊢
  refine ⟨r, H, Nat.le_trans k1 k2, fun w' hw => ?_⟩
  cases a with
  | none =>
   have : r.size = 0 := by have := k3 rfl; omega
   rw [run_convert_bytes_nil w' s u hs hu _ _ d hd]
   have : r = .empty := ByteArray.ext (Array.eq_empty_of_size_eq_zero this)
   rw [this]
  | some a =>
   obtain ⟨b0, o0, s0⟩ := a
   by_cases hz : r.size = 0
   ·have : r = .empty := ByteArray.ext (Array.eq_empty_of_size_eq_zero hz)
    subst this
    rw [run_convert_bytes_string w' s d u _ _ _ hs hu hd]
    exact run_bytesToString w' _ _ cap [] (by simp [loadCells, loadCellsFrom])
   ·have hg := (repDe_get _ 0).1 k4
    obtain ⟨b, o, ces, e, -⟩ := hg 0 _ (by rw [List.getElem?_map, List.getElem?_eq_getElem (by show 0 < r.size; omega)]; rfl)
    cases e
    have := run_convert_bytes_arg w' s u hs hu b0 o0 r.size cap (r.data.toList.map fun c => (c.toNat : Int)) (by simp) (fun i hi => ?_) d hd
    ·rw [this, strOf_bytes]
    ·have hi' : i < r.data.toList.length := hi
     obtain ⟨b, o, ces, e, q1, q2, q3, q4, q5⟩ := hg i _ (by rw [List.getElem?_map, List.getElem?_eq_getElem hi']; rfl)
     cases e
     have q4 : n = 1 := q4.symm
     subst q4
     obtain ⟨rfl, -⟩ := q5
     have := q3 0 _ rfl
     rw [Nat.zero_add, Nat.mul_one, Nat.add_zero] at this
     rw [hw.cellSome this]
     simp [List.getD, Array.getElem?_eq_getElem (show i < r.data.size from hi)]
 ·rename_i b off len
  split at H
  ·rename_i xs dp hb
   obtain ⟨⟨l1, l2, ⟨⟨r, hr, H⟩⟩⟩⟩ := H
   obtain ⟨a, cap, rfl, k1, k2, k3, k4⟩ := rep_own.1 hx
   have hl : len = r.size := by
    have := congrArg List.length hr
    simp only [List.length_take, List.length_drop, List.length_map] at this
    rw [show r.data.toList.length = r.size from rfl] at this
    omega
   refine ⟨r, H, by omega, fun w' hw => ?_⟩
   by_cases hz : len = 0
   ·have : r = .empty := ByteArray.ext (Array.eq_empty_of_size_eq_zero (show r.size = 0 by omega))
    subst this
    subst hz
    cases a with
    | none => exact run_convert_bytes_nil w' s u hs hu _ _ d hd
    | some a =>
     rw [run_convert_bytes_string w' s d u _ _ _ hs hu hd]
     exact run_bytesToString w' _ _ cap [] (by simp [loadCells, loadCellsFrom])
   ·rcases k4 with k4 | ⟨g, F, arr, t', m1, rfl, m3, m4⟩
    ·omega
    ·obtain ⟨arr', t'', n1, n2, n3⟩ : ∃ arr t, w.heap[g]? = some (.cells arr t (0, 0)) ∧ xs.length * 1 ≤ arr.size ∧ (if dp = true then ownDe w arr 1 xs 0 F else F = [] ∧ extDe M.O w arr 1 xs 0) := hI.blk b _ _ hb m1
     rw [m3] at n1
     cases n1
     have hn : nOf h b = 1 := by simp [nOf, hb]
     rw [hn, Nat.mul_one]
     have hcell : ∀ i, i < len → w.cell? ⟨g, off + i, none⟩ = some (.int .u8 ((r.data.toList.map fun c => (c.toNat : Int)).getD i 0)) := fun i hi => by
      have hxi : xs[off + i]? = some (bD ((r.data.toList)[i]'(by show i < r.size; omega))) := by
       have := congrArg (fun l => l[i]?) hr
       simp only [List.getElem?_take, List.getElem?_drop, List.getElem?_map] at this
       rw [if_pos hi] at this
       rw [this, List.getElem?_eq_getElem (by show i < r.size; omega)]; rfl
      have : arr[off + i]? = some (.int .u8 ((r.data.toList[i]'(by show i < r.size; omega)).toNat : Int)) := by
       cases dp with
       | true =>
        rw [if_pos rfl] at n3
        exact by have := own_cell1 xs 0 F n3 (off + i) hxi; rwa [Nat.zero_add] at this
       | false =>
        rw [if_neg (by simp)] at n3
        exact by have := ext_cell1 xs 0 n3.2 (off + i) hxi; rwa [Nat.zero_add] at this
      simp only [World.cell?, m3, Option.bind_some]
      rw [this]
      have hi2 : i < r.data.size := by show i < r.size; omega
      simp [List.getD, Array.getElem?_eq_getElem hi2]
     have := run_convert_bytes_arg w' s u hs hu g off len cap (r.data.toList.map fun c => (c.toNat : Int)) (by rw [List.length_map]; exact hl.symm) (fun i hi => hw.cellSome (hcell i hi)) d hd
     rw [this, strOf_bytes]
  ·exact H.elim
 ·rename_i b len rest off
  split at H
  ·rename_i bs hb
   have H0 := BL H; clear H; obtain ⟨hlo, H⟩ := H0
   obtain rfl := Nat.eq_of_beq_eq_true hlo
   obtain ⟨⟨rfl, H⟩⟩ := H
   obtain ⟨g, F, m1, hcv⟩ := rep_pB.1 hx
   obtain rfl : cx = .slice (some ⟨g, 0, none⟩) bs.length (rest.headD 0) := hcv
   obtain ⟨rfl, arr, t', fz, hg, o1, o2, o3, o5, o4⟩ := hI.blk b _ _ hb m1
   refine ⟨⟨bs.toArray⟩, H, (by show bs.toArray.size ≤ _; simpa using o5), fun w' hw => ?_⟩
   have hcell : ∀ i, i < bs.length → w.cell? ⟨g, 0 + i, none⟩ = some (.int .u8 ((bs.map fun c => (c.toNat : Int)).getD i 0)) := fun i hi => by
    have hb' : bs[i]? = some bs[i] := List.getElem?_eq_getElem hi
    simp only [World.cell?, hg, Nat.zero_add]
    rw [o4 i _ hb']
    simp [List.getD, hb']
   have := run_convert_bytes_arg w' s u hs hu g 0 bs.length (rest.headD 0) (bs.map fun c => (c.toNat : Int)) (by simp) (fun i hi => hw.cellSome (hcell i hi)) d hd
   have e := strOf_bytes ⟨bs.toArray⟩
   simp only [List.toList_toArray] at e
   rw [this, e]
  ·exact H.elim
 ·exact H.elim
theorem len_sound (hT : TOk P tt) {t : Nat} {rest : List Nat} {ty : Nat} {x : V} {cx : Value} (hx : rep w M h x cx) (H : lenV tt t x K) : ∃ u cu, K u ∧ rep w M h u cu ∧ ∀ w', (Builtin.len_ ⟨t :: rest⟩ ty ⟨[cx]⟩).run P w' = .ok cu w' := by
 unfold lenV at H
 split at H
 ·rename_i sz by' zr eq0 s hti
  obtain ⟨fi, d', z, h1, h2, h3, h4, h5, h6, h7, h8, h9⟩ := (hT t _ hti).ex
  cases d' <;> first
   | exact (h6 : False).elim
   | skip
  obtain ⟨rfl, ha⟩ := rep_str.1 hx
  exact ⟨_, _, H, rep_int.2 ⟨rfl, nat_inR ha⟩, fun w' => by simp [Builtin.len_, run_underlying h5, goInt]⟩
 ·rename_i e sz by' zr eq0 xs hti
  obtain ⟨fi, d', z, h1, h2, h3, h4, h5, h6, h7, h8, h9⟩ := (hT t _ hti).ex
  cases d' <;> first
   | exact (h6 : False).elim
   | skip
  obtain ⟨a, cap, n, rfl, k1, k2, k3, k4⟩ := rep_lst.1 hx
  exact ⟨_, _, H, rep_int.2 ⟨rfl, nat_inR (Nat.le_trans k1 k2)⟩, fun w' => by simp [Builtin.len_, run_underlying h5, goInt]⟩
 ·rename_i e sz by' zr eq0 b off n hti
  obtain ⟨fi, d', z, h1, h2, h3, h4, h5, h6, h7, h8, h9⟩ := (hT t _ hti).ex
  cases d' <;> first
   | exact (h6 : False).elim
   | skip
  obtain ⟨a, cap, rfl, k1, k2, k3⟩ := rep_own.1 hx
  exact ⟨_, _, H, rep_int.2 ⟨rfl, nat_inR (Nat.le_trans k1 k2)⟩, fun w' => by simp [Builtin.len_, run_underlying h5, goInt]⟩
 ·rename_i e sz by' zr eq0 hti
  obtain ⟨fi, d', z, h1, h2, h3, h4, h5, h6, h7, h8, h9⟩ := (hT t _ hti).ex
  cases d' <;> first
   | exact (h6 : False).elim
   | skip
  cases rep_nils.1 hx
  exact ⟨_, _, H, rep_int.2 ⟨rfl, nat_inR (by simp [maxLen])⟩, fun w' => by simp [Builtin.len_, run_underlying h5, goInt]⟩
 ·exact H.elim
theorem cap_sound (hT : TOk P tt) {t : Nat} {rest : List Nat} {ty : Nat} {x : V} {cx : Value} (hx : rep w M h x cx) (H : capV tt t x K) : ∃ u cu, K u ∧ rep w M h u cu ∧ ∀ w', (Builtin.cap_ ⟨t :: rest⟩ ty ⟨[cx]⟩).run P w' = .ok cu w' := by
 unfold capV at H
 split at H
 ·rename_i e sz by' zr eq0 hti
  obtain ⟨fi, d', z, h1, h2, h3, h4, h5, h6, h7, h8, h9⟩ := (hT t _ hti).ex
  cases d' <;> first
   | exact (h6 : False).elim
   | skip
  cases rep_nils.1 hx
  exact ⟨_, _, H, rep_int.2 ⟨rfl, nat_inR (by simp [maxLen])⟩, fun w' => by simp [Builtin.cap_, run_underlying h5, goInt]⟩
 ·exact H.elim
def keyTD : Option IntKind → TypeDesc
 | some k => .int k
 | none => .string
theorem key_is {tg : Option IntKind} {q : D} {kv : Value} (hk : keyK tg q = true) (H : rep1 w M h (.d q) kv) : Go.MapKept.IsKey (keyTD tg) kv := by
 cases tg with
 | none =>
  cases q <;> first
   | (cases hk; done)
   | skip
  obtain ⟨rfl, _⟩ := rep_str.1 H
  trivial
 | some kk =>
  cases q <;> first
   | (cases hk; done)
   | skip
  rename_i k' n
  obtain ⟨rfl, _⟩ := rep_int.1 H
  have : k' = kk := of_decide_eq_true hk
  exact this
theorem key_same {tg : Option IntKind} {q k : D} {kv kx : Value} (h1 : keyK tg q = true) (h2 : keyK tg k = true) (H1 : rep1 w M h (.d q) kv) (H2 : rep1 w M h (.d k) kx) :
  Instr.sameNow (keyTD tg) kv kx = some (keyE q k) ∧ (keyE q k = true → kx = kv) := by
 cases tg with
 | none =>
  cases q <;> first
   | (cases h1; done)
   | skip
  cases k <;> first
   | (cases h2; done)
   | skip
  obtain ⟨rfl, _⟩ := rep_str.1 H1
  obtain ⟨rfl, _⟩ := rep_str.1 H2
  exact ⟨rfl, fun e => by rw [(Go.MapKept.bytes_beq _ _).1 e]⟩
 | some kk =>
  cases q <;> first
   | (cases h1; done)
   | skip
  cases k <;> first
   | (cases h2; done)
   | skip
  obtain ⟨rfl, _⟩ := rep_int.1 H1
  obtain ⟨rfl, _⟩ := rep_int.1 H2
  cases of_decide_eq_true h1
  have := of_decide_eq_true h2
  subst this
  refine ⟨by simp [Instr.sameNow, keyTD, keyE], fun e => ?_⟩
  simp only [keyE, beq_iff_eq] at e
  rw [e]
theorem find_ent {tg : Option IntKind} {q : D} {kv : Value} (hk : keyK tg q = true) (hq : rep1 w M h (.d q) kv) : ∀ (es : List (D × D)) (l : List MapEntry) (i : Nat), (∀ p ∈ es, keyK tg p.1 = true) → entR w M h es l →
  (lkD es q = none ∧ Instr.findNow (keyTD tg) kv l i = some none ∧ ∀ z x, rep1 w M h (.d z) x.val → x.key = kv → entR w M h (updD es q z) (l ++ [x])) ∨
  (∃ v j x, lkD es q = some v ∧ Instr.findNow (keyTD tg) kv l i = some (some (i + j, x.val)) ∧ rep1 w M h (.d v) x.val ∧ l[j]? = some x ∧ x.key = kv ∧
   ∀ z zv, rep1 w M h (.d z) zv → entR w M h (updD es q z) (l.modify j fun e => { e with key := kv, val := zv }))
 | [], l, i, _, H => by
  cases H
  exact .inl ⟨rfl, rfl, fun z x hz hx => ⟨x, [], rfl, by rw [hx]; exact hq, hz, rfl⟩⟩
 | (k, v) :: es, l, i, hK, H => by
  obtain ⟨x, l', rfl, h1, h2, h3⟩ := H
  obtain ⟨s1, s2⟩ := key_same hk (hK (k, v) (by simp)) hq h1
  cases he : keyE q k with
  | true =>
   rw [he] at s1
   refine .inr ⟨v, 0, x, by simp [lkD, he], by simp [Instr.findNow, s1], h2, rfl, s2 he, fun z zv hz => ?_⟩
   simp only [updD, he, cond_true]
   exact ⟨_, _, rfl, hq, hz, h3⟩
  | false =>
   rw [he] at s1
   rcases find_ent hk hq es l' (i + 1) (fun p hp => hK p (by simp [hp])) h3 with ⟨k1, k2, k3⟩ | ⟨v', j, x', k1, k2, k3, k4, k5, k6⟩
   ·refine .inl ⟨by simp [lkD, he, k1], by simp [Instr.findNow, s1, k2], fun z x0 hz hx => ?_⟩
    simp only [updD, he, cond_false]
    exact ⟨_, _, rfl, h1, h2, k3 z x0 hz hx⟩
   ·refine .inr ⟨v', j + 1, x', by simp [lkD, he, k1], by simp [Instr.findNow, s1, k2]; omega, k3, by simpa using k4, k5, fun z zv hz => ?_⟩
    simp only [updD, he, cond_false, List.modify_succ_cons]
    exact ⟨_, _, rfl, h1, h2, k6 z zv hz⟩
theorem pbv_map (g : Nat) (p : List Nat) : pbv g p 1000000007 = .map (some g) := rfl
theorem kk_desc (hT : TOk P tt) {kt : Nat} {tg : Option IntKind} (H : tgE (kkV tt kt) tg = true) : P.underlying kt = some (keyTD tg) := by
 unfold kkV at H
 split at H
 ·rename_i k sz by' zr eq0 hti
  obtain ⟨fi, d', z, h1, h2, h3, h4, h5, h6, h7, h8, h9⟩ := (hT kt _ hti).ex
  cases d' <;> first
   | exact (h6 : False).elim
   | skip
  cases (h6 : _ = k)
  cases tg with
  | none => cases H
  | some k' => cases of_decide_eq_true H; exact h5
 ·rename_i sz by' zr eq0 hti
  obtain ⟨fi, d', z, h1, h2, h3, h4, h5, h6, h7, h8, h9⟩ := (hT kt _ hti).ex
  cases d' <;> first
   | exact (h6 : False).elim
   | skip
  cases tg with
  | none => exact h5
  | some k' => cases H
 ·cases H
theorem lk_sound (hT : TOk P tt) (hI : MInv B w M h) {t : Nat} {x i : V} {cx ci : Value} {ok : Bool} (hx : rep w M h x cx) (hi : rep w M h i ci) (H : lkV tt t x i ok h K) :
  ∃ u cu, K u ∧ rep w M h u cu ∧ ∀ w', Ext w w' → (Instr.lookup t cx ci ok).run P w' = .ok cu w' := by
 unfold lkV at H
 split at H
 ·rename_i kt et sz by' zr eq0 b p off q hti
  obtain ⟨fi, d', z, h1, h2, h3, h4, h5, h6, h7, h8, h9⟩ := (hT t _ hti).ex
  cases d' <;> first
   | exact (h6 : False).elim
   | skip
  obtain ⟨rfl, rfl⟩ := (h6 : _ = kt ∧ _ = et)
  split at H
  ·rename_i ie tg es hie hb
   have H0 := BL H; clear H; obtain ⟨hc, H⟩ := H0
   simp only [Bool.and_eq_true, nbeq] at hc
   obtain ⟨⟨rfl, c2⟩, c3⟩ := hc
   obtain ⟨g, F, hM, rfl⟩ := rep_pB.1 hx
   obtain ⟨rfl, hK, ents, ck, hg, hr⟩ := hI.blk b _ _ hb hM
   have hd := kk_desc hT c3
   have hk := key_is c2 hi
   obtain ⟨fe, de, ze, e1, e2, e3, e4, e5, e6, e7, e8, e9⟩ := (hT _ _ hie).ex
   have hgw : ∀ w', Ext w w' → w'.heap[g]? = some (.map ents ck) := fun w' hw => by rw [hw.below.block g (lt_of_heap hg)]; exact hg
   rcases find_ent c2 hi es ents.toList 0 hK hr with ⟨k1, k2, _⟩ | ⟨v, j, y, k1, k2, k3, _⟩
   ·refine ⟨okV ok ie.zero false, if ok = true then .tuple #[ze, .bool false] else ze, H.ex.2 k1, ?_, fun w' hw => ?_⟩
    ·cases ok with
     | false => exact rep_of_rep1 (e7 w M h)
     | true => exact rep_tup.2 ⟨_, rfl, ⟨_, _, rfl, e7 w M h, _, _, rfl, rep1_of_rep (v := .d (.bool false)) rfl (rep_bool.2 rfl), rfl⟩⟩
    ·rw [pbv_map]
     simp [Instr.lookup, run_underlying h5, Go.MapKept.run_getObj_map (hgw w' hw), Go.MapKept.run_checkKey hd hk, Go.MapKept.run_findKey hd k2, zeroValue, typeInfo, e1, e4]
   ·refine ⟨okV ok (.d v) true, if ok = true then .tuple #[y.val, .bool true] else y.val, H.ex.1 v k1, ?_, fun w' hw => ?_⟩
    ·cases ok with
     | false => exact rep_of_rep1 k3
     | true => exact rep_tup.2 ⟨_, rfl, ⟨_, _, rfl, k3, _, _, rfl, rep1_of_rep (v := .d (.bool true)) rfl (rep_bool.2 rfl), rfl⟩⟩
    ·rw [pbv_map]
     simp [Instr.lookup, run_underlying h5, Go.MapKept.run_getObj_map (hgw w' hw), Go.MapKept.run_checkKey hd hk, Go.MapKept.run_findKey hd k2]
  ·exact H.elim
 ·exact H.elim
end
section
variable {P : Program} {tt : TT} {w : World} {M : MM} {h : List Blk} {K : V → Prop} {B : Nat} {e : Env} {a : Act}
theorem evs_repK (hE : ∀ k, rep w M h (gt e k) (a.tmps.getD k Go.undef)) : ∀ (xs : List Operand), (∀ x ∈ xs, cOK x = true) → capsOK (evs e xs) = true → repK w M h (evs e xs) (xs.map a.eval)
 | [], _, _ => rfl
 | x :: xs, hc, ho => by
  simp only [evs, capsOK, Bool.and_eq_true, Bool.not_eq_true'] at ho
  have h1 := rep1_of_rep ho.1.1 (ev_rep hE x (hc x (by simp)))
  unfold rep1 at h1
  rw [if_neg (by rw [ho.1.2]; simp)] at h1
  exact ⟨a.eval x, xs.map a.eval, rfl, h1, evs_repK hE xs (fun y hy => hc y (by simp [hy])) ho.2⟩
theorem repT_get : ∀ (vs : List V) (cs : List Value) (i : Nat) (v : V), repT w M h vs cs → vs[i]? = some v → ∃ c, cs[i]? = some c ∧ rep1 w M h v c
 | [], cs, i, v, _, hi => by simp at hi
 | u :: vs, cs, 0, v, H, hi => by
  obtain ⟨c, cs', rfl, h1, h2⟩ := H
  simp at hi
  subst hi
  exact ⟨c, rfl, h1⟩
 | u :: vs, cs, i + 1, v, H, hi => by
  obtain ⟨c, cs', rfl, h1, h2⟩ := H
  obtain ⟨c', k1, k2⟩ := repT_get vs cs' i v h2 (by simpa using hi)
  exact ⟨c', by simpa using k1, k2⟩
theorem run_min3 {P : Program} {ts : Array TypeId} {ty : TypeId} {a b c v u : Value} {w : World} (h1 : (Builtin.min_ ts ty #[a, b]).run P w = .ok v w) (h2 : (Builtin.min_ ts ty #[v, c]).run P w = .ok u w) : (Builtin.min_ ts ty #[a, b, c]).run P w = .ok u w := by
 simp only [Builtin.min_, List.foldlM_cons, List.foldlM_nil, Sem.run_bind, Sem.run_pure] at h1 h2 ⊢
 cases hq : (Builtin.min2 a b).run P w with
 | ok v' w' =>
  rw [hq] at h1
  simp only [Result.andThen_ok, Result.ok.injEq] at h1
  obtain ⟨rfl, rfl⟩ := h1
  simp only [Result.andThen_ok]
  exact h2
 | _ => rw [hq] at h1; simp [Result.andThen] at h1
theorem mx_sound {mx : Bool} {x y : V} {cx cy : Value} {ts : Array TypeId} {ty : TypeId} (hx : rep w M h x cx) (hy : rep w M h y cy) (H : mxV mx x y K) :
  ∃ v cv, K v ∧ rep w M h v cv ∧ ∀ w' : World, ((if mx = true then Builtin.max_ ts ty #[cx, cy] else Builtin.min_ ts ty #[cx, cy]) : Sem Value).run P w' = .ok cv w' := by
 unfold mxV at H
 split at H
 ·rename_i k a k' b
  obtain ⟨rfl, ra⟩ := rep_int.1 hx
  obtain ⟨rfl, rb⟩ := rep_int.1 hy
  cases hk : k == k' with
  | false => rw [hk] at H; exact H.elim
  | true =>
   have hk' : k = k' := by revert hk; cases k <;> cases k' <;> decide
   subst hk'
   rw [hk] at H
   cases mx with
   | true =>
    refine ⟨_, _, H, rep_int.2 ⟨rfl, ?_⟩, fun w' => ?_⟩
    ·rw [Int.max_def]; split <;> assumption
    ·simp only [if_true, run_max_int2]
     congr 2
     rw [Int.max_def]; split <;> split <;> omega
   | false =>
    refine ⟨_, _, H, rep_int.2 ⟨rfl, ?_⟩, fun w' => ?_⟩
    ·rw [Int.min_def]; split <;> assumption
    ·simp only [Bool.false_eq_true, if_false, run_min_int2]
     congr 2
     rw [Int.min_def]; split <;> split <;> omega
 ·exact H.elim
theorem quiet_sound (hT : TOk P tt) (hI : MInv B w M h) (hE : ∀ k, rep w M h (gt e k) (a.tmps.getD k Go.undef)) {o : Oper} (hc : ∀ x ∈ o.op.operands, cOK x = true)
  (H : quietV tt o e h K) : QOut P o a w M h K := by
 have hev : ∀ x ∈ o.op.operands, rep w M h (ev e x) (a.eval x) := fun x hx => ev_rep hE x (hc x hx)
 obtain ⟨dst, op, type, pos, after, guard⟩ := o
 dsimp only at hc hev
 unfold quietV at H
 cases op with
 | move x => exact ⟨_, _, H, hev x (by simp [Op.operands]), fun w' _ => rfl⟩
 | assign x => exact ⟨_, _, H, hev x (by simp [Op.operands]), fun w' _ => rfl⟩
 | pick c x y =>
  dsimp only at H
  have hcv := hev c (by simp [Op.operands])
  split at H
  ·rename_i q hq
   rw [hq] at hcv
   have hb := rep_bool.1 hcv
   refine H.elim (fun hq H => ⟨_, _, H, hev x (by simp [Op.operands]), fun w' _ => ?_⟩) (fun hq H => ⟨_, _, H, hev y (by simp [Op.operands]), fun w' _ => ?_⟩)
   ·simp [execOp, hb, asBool, hq]
   ·simp [execOp, hb, asBool, hq]
  ·exact H.elim
 | load t x =>
  obtain ⟨u, cu, h1, h2, h3⟩ := load_sound hT hI (hev x (by simp [Op.operands])) H
  refine ⟨u, cu, h1, h2, fun w' hw => ?_⟩
  have hx : Ext w w' := by
   rcases hw with hw | hw
   ·cases hw
   ·exact hw
  simp [execOp, h3 w' hx]
 | nilCheck x =>
  dsimp only at H
  have hx := hev x (by simp [Op.operands])
  split at H
  ·rename_i b p o hq
   rw [hq] at hx
   have H0 := BL H; clear H; obtain ⟨hlo, H⟩ := H0
   obtain ⟨g, F, hM, e1⟩ := rep_pB.1 hx
   rw [pbv_lo hlo] at e1
   exact ⟨_, _, H, hx, fun w' _ => by simp [execOp, e1]⟩
  ·rename_i b i p o hq
   rw [hq] at hx
   obtain ⟨g, F, hM, e1⟩ := rep_pL.1 hx
   exact ⟨_, _, H, hx, fun w' _ => by simp [execOp, e1]⟩
  ·rename_i y hq
   rw [hq] at hx
   obtain ⟨b, o, ces, e1, _⟩ := rep_pX.1 hx
   exact ⟨_, _, H, hx, fun w' _ => by simp [execOp, e1]⟩
  ·exact H.elim
 | fieldAddr s x f =>
  obtain ⟨u, cu, h1, h2, h3⟩ := field_sound hT (hev x (by simp [Op.operands])) H
  exact ⟨u, cu, h1, h2, fun w' _ => by simp [execOp, h3 w']⟩
 | indexAddr t x i =>
  obtain ⟨u, cu, h1, h2, h3⟩ := index_sound hT (hev x (by simp [Op.operands])) (hev i (by simp [Op.operands])) H
  exact ⟨u, cu, h1, h2, fun w' _ => by simp [execOp, h3 w']⟩
 | index t x i =>
  obtain ⟨u, cu, h1, h2, h3⟩ := char_sound (P := P) hT (hev x (by simp [Op.operands])) (hev i (by simp [Op.operands])) H
  exact ⟨u, cu, h1, h2, fun w' _ => by simp [execOp, h3 w']⟩
 | slice t x lo hi mx =>
  cases mx with
  | some m => exact H.elim
  | none =>
   obtain ⟨u, cu, h1, h2, h3⟩ := slice_sound (clo := lo.map a.eval) (chi := hi.map a.eval) hT hI (hev x (by simp [Op.operands]))
    (by cases lo with
     | none => trivial
     | some l => exact hev l (by simp [Op.operands]))
    (by cases hi with
     | none => trivial
     | some l => exact hev l (by simp [Op.operands])) H
   exact ⟨u, cu, h1, h2, fun w' _ => by simp [execOp, h3 w']⟩
 | binOp op t x y yt =>
  obtain ⟨u, cu, h1, h2, h3⟩ := bin_sound (P := P) hT (toD_rep (hev x (by simp [Op.operands]))) (toD_rep (hev y (by simp [Op.operands]))) H
  refine ⟨u, cu, h1, h2, fun w' _ => ?_⟩
  have := h3 x y w'
  rw [Sem.run_bind] at this
  simp only [execOp, Sem.run_bind, Sem.run_pure]
  revert this
  cases (eqGuard op t x y (a.eval x) (a.eval y)).run P w' with
  | ok u w2 =>
   intro h
   simp only [Result.andThen_ok] at h ⊢
   rw [h]
   rfl
  | halt q w2 => intro h; cases h
 | unOp op t x =>
  obtain ⟨u, cu, h1, h2, h3⟩ := un_sound (P := P) (hev x (by simp [Op.operands])) H
  exact ⟨u, cu, h1, h2, fun w' _ => by simp [execOp, h3 w']⟩
 | convert s d x =>
  dsimp only at H
  split at H
  ·rename_i u sz by' zr eq0 hi
   obtain ⟨f, d', z, _, _, _, _, h5, h6, _⟩ := (hT s _ hi).ex
   cases d' <;> first
    | exact (h6 : False).elim
    | skip
   cases (h6 : _ = u)
   split at H
   ·rename_i hd hu
    obtain ⟨fd, dd, zd, _, _, _, _, d5, d6, _⟩ := (hT d _ hd).ex
    cases dd <;> first
     | exact (d6 : False).elim
     | skip
    obtain ⟨fu, du, zu, _, _, _, _, u5, u6, _⟩ := (hT _ _ hu).ex
    cases du <;> first
     | exact (u6 : False).elim
     | skip
    cases (u6 : _ = IntKind.u8)
    obtain ⟨r, h1, h2, h3⟩ := bytes_sound hI h5 u5 d5 (hev x (by simp [Op.operands])) H
    refine ⟨_, _, h1, rep_str.2 ⟨rfl, h2⟩, fun w' hw => ?_⟩
    have hx : Ext w w' := by
     rcases hw with hw | hw
     ·cases hw
     ·exact hw
    simp [execOp, h3 w' hx]
   ·exact H.elim
  ·rename_i i hni hi
   obtain ⟨f, d', z, _, _, _, _, h5, _⟩ := (hT s i hi).ex
   obtain ⟨u, cu, h1, h2, h3⟩ := conv_sound (P := P) hT (s := s) (by rw [h5]; rfl) (hev x (by simp [Op.operands])) H
   exact ⟨u, cu, h1, h2, fun w' _ => by simp [execOp, h3 w']⟩
  ·exact H.elim
 | extract x i =>
  dsimp only at H
  have hx := hev x (by simp [Op.operands])
  split at H
  ·rename_i vs hq
   rw [hq] at hx
   split at H
   ·rename_i v hv
    obtain ⟨cvs, e1, h1⟩ := rep_tup.1 hx
    obtain ⟨c, k1, k2⟩ := repT_get vs cvs i v h1 hv
    exact ⟨v, c, H, rep_of_rep1 k2, fun w' _ => by simp [execOp, e1, Instr.extract, k1]⟩
   ·exact H.elim
  ·exact H.elim
 | lookup t x i ok =>
  obtain ⟨u, cu, h1, h2, h3⟩ := lk_sound hT hI (hev x (by simp [Op.operands])) (hev i (by simp [Op.operands])) H
  refine ⟨u, cu, h1, h2, fun w' hw => ?_⟩
  have hx : Ext w w' := by
   rcases hw with hw | hw
   ·cases hw
   ·exact hw
  simp [execOp, h3 w' hx]
 | makeFunc f first caps =>
  obtain ⟨first⟩ := first
  obtain ⟨caps⟩ := caps
  cases first with
  | cons _ _ => exact H.elim
  | nil =>
   dsimp only at H
   cases hq : capsOK (evs e caps) with
   | false => rw [hq] at H; exact H.elim
   | true =>
    rw [hq] at H
    refine ⟨_, _, H, rep_fn.2 ⟨caps.map a.eval, rfl, evs_repK hE caps (fun x hx => hc x (by simp [Op.operands, hx])) hq⟩, fun w' _ => ?_⟩
    simp [execOp, Instr.makeFunc]
 | call c =>
  obtain ⟨callee, args, ats⟩ := c
  cases callee with
  | value f => exact H.elim
  | invoke f => exact H.elim
  | builtin b =>
   obtain ⟨args⟩ := args
   obtain ⟨ats⟩ := ats
   dsimp only at H
   cases b with
   | len =>
    rcases args with _ | ⟨x, _ | ⟨y, ys⟩⟩ <;> first
     | exact H.elim
     | skip
    rcases ats with _ | ⟨t, ts⟩ <;> first
     | exact H.elim
     | skip
    obtain ⟨u, cu, h1, h2, h3⟩ := len_sound (P := P) (rest := ts) (ty := type) hT (hev x (by simp [Op.operands, Call.operands])) H
    refine ⟨u, cu, h1, h2, fun w' _ => ?_⟩
    have := h3 w'
    simp [execOp, resolve, invoke, builtin, this]
   | cap =>
    rcases args with _ | ⟨x, _ | ⟨y, ys⟩⟩ <;> first
     | exact H.elim
     | skip
    rcases ats with _ | ⟨t, ts⟩ <;> first
     | exact H.elim
     | skip
    obtain ⟨u, cu, h1, h2, h3⟩ := cap_sound (P := P) (rest := ts) (ty := type) hT (hev x (by simp [Op.operands, Call.operands])) H
    refine ⟨u, cu, h1, h2, fun w' _ => ?_⟩
    have := h3 w'
    simp [execOp, resolve, invoke, builtin, this]
   | max =>
    rcases args with _ | ⟨x, _ | ⟨y, _ | ⟨z, zs⟩⟩⟩ <;> first
     | exact H.elim
     | skip
    obtain ⟨u, cu, h1, h2, h3⟩ := mx_sound (P := P) (ts := ⟨ats⟩) (ty := type) (hev x (by simp [Op.operands, Call.operands])) (hev y (by simp [Op.operands, Call.operands])) H
    refine ⟨u, cu, h1, h2, fun w' _ => ?_⟩
    have := h3 w'
    simp only [if_true] at this
    simp [execOp, resolve, invoke, builtin, this]
   | min =>
    rcases args with _ | ⟨x, _ | ⟨y, _ | ⟨z, _ | ⟨z', zs⟩⟩⟩⟩ <;> first
     | exact H.elim
     | skip
    rotate_left
    ·obtain ⟨u, cu, h1, h2, h3⟩ := mx_sound (P := P) (ts := ⟨ats⟩) (ty := type) (hev x (by simp [Op.operands, Call.operands])) (hev y (by simp [Op.operands, Call.operands])) H
     obtain ⟨u', cu', h1', h2', h3'⟩ := mx_sound (P := P) (ts := ⟨ats⟩) (ty := type) h2 (hev z (by simp [Op.operands, Call.operands])) h1
     refine ⟨u', cu', h1', h2', fun w' _ => ?_⟩
     have q1 := h3 w'
     have q2 := h3' w'
     simp only [Bool.false_eq_true, if_false] at q1 q2
     have q3 := run_min3 q1 q2
     simp [execOp, resolve, invoke, builtin, q3]
    obtain ⟨u, cu, h1, h2, h3⟩ := mx_sound (P := P) (ts := ⟨ats⟩) (ty := type) (hev x (by simp [Op.operands, Call.operands])) (hev y (by simp [Op.operands, Call.operands])) H
    refine ⟨u, cu, h1, h2, fun w' _ => ?_⟩
    have := h3 w'
    simp only [Bool.false_eq_true, if_false] at this
    simp [execOp, resolve, invoke, builtin, this]
   | _ => exact H.elim
 | _ => exact H.elim
end
theorem O_set_perm : ∀ (M : MM) (b : Nat) (m m' : Option (Nat × List Nat)), M[b]? = some m → List.Perm (MM.O (M.set b m')) (mO m' ++ MM.O (M.set b none))
 | [], b, m, m', h => by simp at h
 | x :: M, 0, m, m', h => by
  show List.Perm (MM.O (m' :: M)) (mO m' ++ MM.O (none :: M))
  simp only [MM.O, List.flatMap_cons, mO, List.nil_append]
  exact List.Perm.refl _
 | x :: M, b + 1, m, m', h => by
  show List.Perm (MM.O (x :: M.set b m')) (mO m' ++ MM.O (x :: M.set b none))
  have ih := O_set_perm M b m m' (by simpa using h)
  simp only [MM.O, List.flatMap_cons] at ih ⊢
  exact (List.Perm.append_left _ ih).trans (by rw [← List.append_assoc, ← List.append_assoc]; exact List.Perm.append_right _ List.perm_append_comm)
theorem set_self {α : Type} : ∀ (l : List α) (b : Nat) (m : α), l[b]? = some m → l.set b m = l
 | [], b, m, h => by simp at h
 | x :: l, 0, m, h => by simp at h; simp [h]
 | x :: l, b + 1, m, h => by simp [set_self l b m (by simpa using h)]
theorem O_perm {M : MM} {b : Nat} {m : Option (Nat × List Nat)} (h : M[b]? = some m) : List.Perm M.O (mO m ++ MM.O (M.set b none)) := by
 have := O_set_perm M b m m h
 rwa [set_self M b m h] at this
section
variable {B : Nat} {w w' : World} {M : MM} {h : List Blk} {b g : Nat} {F : List Nat} {k k' : Blk}
theorem modify_mv (hI : MInv B w M h) (hM : M[b]? = some (some (g, F))) (hk : h[b]? = some k) {arr arr' : Array Value} {t : TypeId} (hg : w.heap[g]? = some (.cells arr t (0, 0)))
  (hg' : w'.heap[g]? = some (.cells arr' t (0, 0))) (hsz : arr'.size = arr.size) (hoth : ∀ c, c ≠ g → w'.heap[c]? = w.heap[c]?) (hn : nOf (h.set b k') b = nOf h b) (hws : w.heap.size ≤ w'.heap.size) : Mv (fun _ => True) w M h w' M (h.set b k') where
 sz := hws
 ext c hc hlt := ⟨hc, hoth c (fun e => hc (by rw [e]; exact mem_O hM (by simp [mO])))⟩
 ids c g' F' _ h' := ⟨F', h'⟩
 row c g' F' arr1 t1 _ h' hr := by
  by_cases e : g' = g
  ·subst e
   rw [hg] at hr
   cases hr
   exact ⟨arr', hg', hsz⟩
  ·exact ⟨arr1, by rw [hoth g' e]; exact hr, rfl⟩
 nof c g' F' _ _ := by
  by_cases e : c = b
  ·subst e; exact hn
  ·unfold nOf; rw [List.getElem?_set_ne (Ne.symm e)]
theorem O_block_inj (hI : MInv B w M h) {c : Nat} {m m' : Option (Nat × List Nat)} (hb : M[b]? = some m) (hc : M[c]? = some m') {x : Nat} (h1 : x ∈ mO m) (h2 : x ∈ mO m') : c = b := by
 by_cases e : c = b
 ·exact e
 ·exfalso
  have p1 := O_perm hb
  have nd := (List.Perm.nodup_iff p1).1 hI.nd
  have hc' : (M.set b none)[c]? = some m' := by rw [List.getElem?_set_ne (Ne.symm e)]; exact hc
  exact (List.nodup_append.1 nd).2.2 x h1 x (mem_O hc' h2) rfl
theorem MInv.modify (hI : MInv B w M h) (hM : M[b]? = some (some (g, F))) (hk : h[b]? = some k) (hlv : k.live = true) {arr arr' : Array Value} {t : TypeId} (hg : w.heap[g]? = some (.cells arr t (0, 0)))
  (hg' : w'.heap[g]? = some (.cells arr' t (0, 0))) (hsz : arr'.size = arr.size) (hoth : ∀ c, c ≠ g → w'.heap[c]? = w.heap[c]?) (hws : w'.heap.size = w.heap.size) (hn : nOf (h.set b k') b = nOf h b)
  (hb : BRep w' M (h.set b k') k' (some (g, F))) : MInv B w' M (h.set b k') where
 len := by simp [hI.len]
 blk c kc m hc hm := by
  by_cases e : c = b
  ·subst e
   rw [List.getElem?_set_self (List.getElem?_eq_some_iff.1 hk).1] at hc
   cases hc
   rw [hM] at hm
   cases hm
   exact hb
  ·rw [List.getElem?_set_ne (Ne.symm e)] at hc
   refine BRep_mv (modify_mv hI hM hk hg hg' hsz hoth hn (Nat.le_of_eq hws.symm)) (by cases kc <;> first | trivial | exact V.inS_all _ | exact inSE_all _) (fun x hx => hoth x (fun e' => ?_)) (hI.blk c kc m hc hm)
   subst e'
   exact e (O_block_inj hI hM hm (by simp [mO]) hx)
 nd := hI.nd
 lo c kc m hc hm hv := by
  by_cases e : c = b
  ·subst e
   exact hI.lo c k m hk hm hlv
  ·rw [List.getElem?_set_ne (Ne.symm e)] at hc
   exact hI.lo c kc m hc hm hv
 hi x hx := by rw [hws]; exact hI.hi x hx
end
section
variable {w : World} {M : MM} {h : List Blk}
theorem fldD_off : ∀ (ds : List D) (f o1 o2 : Nat) (u : D) (o : Nat), fldD ds f o1 = some (u, o) → ∃ o', fldD ds f o2 = some (u, o') ∧ o' + o1 = o + o2
 | [], f, o1, o2, u, o, h => by simp [fldD] at h
 | d :: ds, 0, o1, o2, u, o, h => by
  simp only [fldD, Option.some.injEq, Prod.mk.injEq] at h
  obtain ⟨rfl, rfl⟩ := h
  exact ⟨o2, rfl, by omega⟩
 | d :: ds, f + 1, o1, o2, u, o, h => by
  obtain ⟨o', h1, h2⟩ := fldD_off ds f (o1 + d.size) (o2 + d.size) u o h
  exact ⟨o', h1, by omega⟩
theorem fldV_off : ∀ (ds : List V) (f o1 o2 : Nat) (u : V) (o : Nat), fldV ds f o1 = some (u, o) → ∃ o', fldV ds f o2 = some (u, o') ∧ o' + o1 = o + o2
 | [], f, o1, o2, u, o, h => by simp [fldV] at h
 | d :: ds, 0, o1, o2, u, o, h => by
  simp only [fldV, Option.some.injEq, Prod.mk.injEq] at h
  obtain ⟨rfl, rfl⟩ := h
  exact ⟨o2, rfl, by omega⟩
 | d :: ds, f + 1, o1, o2, u, o, h => by
  obtain ⟨o', h1, h2⟩ := fldV_off ds f (o1 + d.size) (o2 + d.size) u o h
  exact ⟨o', h1, by omega⟩
theorem repCs_set : ∀ (fs : List V) (cs : List Value) (f off : Nat) (u : V) (o : Nat), repCs w M h fs cs → fldV fs f off = some (u, o) →
  ∃ c1 c2 c3, cs = c1 ++ c2 ++ c3 ∧ off + c1.length = o ∧ repC w M h u c2 ∧ ∀ u' c2', repC w M h u' c2' → repCs w M h (setN fs f u') (c1 ++ c2' ++ c3)
 | [], cs, f, off, u, o, _, h => by simp [fldV] at h
 | d :: ds, cs, 0, off, u, o, H, h => by
  obtain ⟨c1, c2, rfl, h1, h2⟩ := H
  simp only [fldV, Option.some.injEq, Prod.mk.injEq] at h
  obtain ⟨rfl, rfl⟩ := h
  exact ⟨[], c1, c2, rfl, rfl, h1, fun u' c2' hu => ⟨c2', c2, rfl, hu, h2⟩⟩
 | d :: ds, cs, f + 1, off, u, o, H, h => by
  obtain ⟨c1, c2, rfl, h1, h2⟩ := H
  obtain ⟨p1, p2, p3, rfl, e, hr, hs⟩ := repCs_set ds c2 f (off + d.size) u o h2 h
  refine ⟨c1 ++ p1, p2, p3, by simp, ?_, hr, fun u' c2' hu => ⟨c1, p1 ++ c2' ++ p3, by simp, h1, hs u' c2' hu⟩⟩
  rw [List.length_append, repC_len d c1 h1]
  omega
theorem repCs_toVs : ∀ (ds : List D) (cs : List Value), repDs M.O w ds cs → repCs w M h (toVs ds) cs
 | [], cs, H => H
 | d :: ds, cs, H => by
  obtain ⟨c1, c2, e, h1, h2⟩ := H
  exact ⟨c1, c2, e, h1, repCs_toVs ds c2 h2⟩
theorem fld_toVs : ∀ (ds : List D) (f off : Nat) (u : D) (o : Nat), fldD ds f off = some (u, o) → fldV (toVs ds) f off = some (.d u, o)
 | [], f, off, u, o, h => by simp [fldD] at h
 | d :: ds, 0, off, u, o, h => by
  simp only [fldD, Option.some.injEq, Prod.mk.injEq] at h
  obtain ⟨rfl, rfl⟩ := h
  rfl
 | d :: ds, f + 1, off, u, o, h => fld_toVs ds f (off + d.size) u o h
theorem sub_d : ∀ (p : List Nat) (x : D) (off : Nat) (u : V) (o : Nat), V.sub (.d x) p off = some (u, o) → ∃ y, u = .d y ∧ x.sub p off = some (y, o)
 | [], x, off, u, o, h => by
  simp only [V.sub, Option.some.injEq, Prod.mk.injEq] at h
  obtain ⟨rfl, rfl⟩ := h
  exact ⟨x, rfl, rfl⟩
 | i :: p, x, off, u, o, h => by
  simp only [V.sub] at h
  split at h
  ·rename_i y o' hy
   cases h
   exact ⟨y, rfl, hy⟩
  ·cases h
theorem repC_upd : ∀ (p : List Nat) (v : V) (cs : List Value) (off : Nat) (u : V) (o : Nat) (x v' : V), repC w M h v cs → v.sub p off = some (u, o) → v.upd p x = some v' →
  ∃ c1 c2 c3, cs = c1 ++ c2 ++ c3 ∧ off + c1.length = o ∧ repC w M h u c2 ∧ ∀ cx, repC w M h x cx → repC w M h v' (c1 ++ cx ++ c3)
 | [], v, cs, off, u, o, x, v', H, hs, hu => by
  simp only [V.sub, Option.some.injEq, Prod.mk.injEq] at hs
  obtain ⟨rfl, rfl⟩ := hs
  cases v <;> (cases hu; exact ⟨[], cs, [], by simp, rfl, H, fun cx hx => by simpa using hx⟩)
 | i :: p, v, cs, off, u, o, x, v', H, hs, hu => by
  cases v with
  | st fs =>
   simp only [V.sub] at hs
   simp only [V.upd] at hu
   split at hs
   ·rename_i u1 o1 h1
    obtain ⟨o', e1, e2⟩ := fldV_off fs i off 0 u1 o1 h1
    rw [e1] at hu
    dsimp only at hu
    split at hu
    ·rename_i u' hu'
     cases hu
     obtain ⟨c1, c2, c3, rfl, e, hr, hset⟩ := repCs_set fs cs i off u1 o1 H h1
     obtain ⟨d1, d2, d3, rfl, e', hr', hset'⟩ := repC_upd p u1 c2 o1 u o x u' hr hs hu'
     refine ⟨c1 ++ d1, d2, d3 ++ c3, by simp, by rw [List.length_append]; omega, hr', fun cx hx => ?_⟩
     have := hset u' _ (hset' cx hx)
     show repCs w M h _ _
     simpa using this
    ·cases hu
   ·cases hs
  | d y =>
   cases y with
   | st ds =>
    obtain ⟨u1, rfl, hs1⟩ := sub_d (i :: p) (.st ds) off u o hs
    simp only [D.sub] at hs1
    simp only [V.upd] at hu
    split at hs1
    ·rename_i u2 o1 h1
     obtain ⟨o', e1, e2⟩ := fldD_off ds i off 0 u2 o1 h1
     rw [e1] at hu
     dsimp only at hu
     split at hu
     ·rename_i u' hu'
      cases hu
      have H' : repCs w M h (toVs ds) cs := repCs_toVs ds cs H
      obtain ⟨c1, c2, c3, rfl, e, hr, hset⟩ := repCs_set (toVs ds) cs i off (.d u2) o1 H' (fld_toVs ds i off u2 o1 h1)
      have hs2 : V.sub (.d u2) p o1 = some (.d u1, o) := by
       cases p with
       | nil => simp only [D.sub, Option.some.injEq, Prod.mk.injEq] at hs1; obtain ⟨rfl, rfl⟩ := hs1; rfl
       | cons q p => simp only [V.sub, hs1]
      obtain ⟨d1, d2, d3, rfl, e', hr', hset'⟩ := repC_upd p (.d u2) c2 o1 (.d u1) o x u' hr hs2 hu'
      refine ⟨c1 ++ d1, d2, d3 ++ c3, by simp, by rw [List.length_append]; omega, hr', fun cx hx => ?_⟩
      have := hset u' _ (hset' cx hx)
      show repCs w M h _ _
      simpa using this
     ·cases hu
    ·cases hs1
   | _ => simp [V.upd] at hu
  | _ => simp [V.upd] at hu
end
section
variable {w : World} {O : List Nat}
theorem repDs_set : ∀ (fs : List D) (cs : List Value) (f off : Nat) (u : D) (o : Nat), repDs O w fs cs → fldD fs f off = some (u, o) →
  ∃ c1 c2 c3, cs = c1 ++ c2 ++ c3 ∧ off + c1.length = o ∧ repD O w u c2 ∧ ∀ u' c2', repD O w u' c2' → repDs O w (setN fs f u') (c1 ++ c2' ++ c3)
 | [], cs, f, off, u, o, _, h => by simp [fldD] at h
 | d :: ds, cs, 0, off, u, o, H, h => by
  obtain ⟨c1, c2, rfl, h1, h2⟩ := H
  simp only [fldD, Option.some.injEq, Prod.mk.injEq] at h
  obtain ⟨rfl, rfl⟩ := h
  exact ⟨[], c1, c2, rfl, rfl, h1, fun u' c2' hu => ⟨c2', c2, rfl, hu, h2⟩⟩
 | d :: ds, cs, f + 1, off, u, o, H, h => by
  obtain ⟨c1, c2, rfl, h1, h2⟩ := H
  obtain ⟨p1, p2, p3, rfl, e, hr, hs⟩ := repDs_set ds c2 f (off + d.size) u o h2 h
  refine ⟨c1 ++ p1, p2, p3, by simp, ?_, hr, fun u' c2' hu => ⟨c1, p1 ++ c2' ++ p3, by simp, h1, hs u' c2' hu⟩⟩
  rw [List.length_append, repD_len d c1 h1]
  omega
theorem repD_upd : ∀ (p : List Nat) (v : D) (cs : List Value) (off : Nat) (u : D) (o : Nat) (x v' : D), repD O w v cs → v.sub p off = some (u, o) → v.upd p x = some v' →
  ∃ c1 c2 c3, cs = c1 ++ c2 ++ c3 ∧ off + c1.length = o ∧ repD O w u c2 ∧ ∀ cx, repD O w x cx → repD O w v' (c1 ++ cx ++ c3)
 | [], v, cs, off, u, o, x, v', H, hs, hu => by
  simp only [D.sub, Option.some.injEq, Prod.mk.injEq] at hs
  obtain ⟨rfl, rfl⟩ := hs
  cases v <;> (cases hu; exact ⟨[], cs, [], by simp, rfl, H, fun cx hx => by simpa using hx⟩)
 | i :: p, v, cs, off, u, o, x, v', H, hs, hu => by
  cases v with
  | st fs =>
   simp only [D.sub] at hs
   simp only [D.upd] at hu
   split at hs
   ·rename_i u1 o1 h1
    obtain ⟨o', e1, e2⟩ := fldD_off fs i off 0 u1 o1 h1
    rw [e1] at hu
    dsimp only at hu
    split at hu
    ·rename_i u' hu'
     cases hu
     obtain ⟨c1, c2, c3, rfl, e, hr, hset⟩ := repDs_set fs cs i off u1 o1 H h1
     obtain ⟨d1, d2, d3, rfl, e', hr', hset'⟩ := repD_upd p u1 c2 o1 u o x u' hr hs hu'
     refine ⟨c1 ++ d1, d2, d3 ++ c3, by simp, by rw [List.length_append]; omega, hr', fun cx hx => ?_⟩
     have := hset u' _ (hset' cx hx)
     show repDs O w _ _
     simpa using this
    ·cases hu
   ·cases hs
  | int k n => simp [D.sub] at hs
  | bool k => simp [D.sub] at hs
  | str k => simp [D.sub] at hs
  | lst k => simp [D.sub] at hs
  | hole _ _ _ => simp [D.sub] at hs
  | fnv _ => simp [D.sub] at hs
  | raw _ => simp [D.sub] at hs
theorem ownDs_set : ∀ (fs : List D) (F : List Nat) (cs : List Value) (f off : Nat) (u : D) (o : Nat), ownDs w fs F cs → fldD fs f off = some (u, o) →
  ∃ F1 F2 F3 c1 c2 c3, F = F1 ++ F2 ++ F3 ∧ cs = c1 ++ c2 ++ c3 ∧ off + c1.length = o ∧ ownD w u F2 c2 ∧ ∀ u' F2' c2', ownD w u' F2' c2' → ownDs w (setN fs f u') (F1 ++ F2' ++ F3) (c1 ++ c2' ++ c3)
 | [], F, cs, f, off, u, o, _, h => by simp [fldD] at h
 | d :: ds, F, cs, 0, off, u, o, H, h => by
  obtain ⟨F1, F2, c1, c2, rfl, rfl, h1, h2⟩ := H
  simp only [fldD, Option.some.injEq, Prod.mk.injEq] at h
  obtain ⟨rfl, rfl⟩ := h
  exact ⟨[], F1, F2, [], c1, c2, rfl, rfl, rfl, h1, fun u' F2' c2' hu => ⟨F2', F2, c2', c2, rfl, rfl, hu, h2⟩⟩
 | d :: ds, F, cs, f + 1, off, u, o, H, h => by
  obtain ⟨F1, F2, c1, c2, rfl, rfl, h1, h2⟩ := H
  obtain ⟨G1, G2, G3, p1, p2, p3, rfl, rfl, e, hr, hs⟩ := ownDs_set ds F2 c2 f (off + d.size) u o h2 h
  refine ⟨F1 ++ G1, G2, G3, c1 ++ p1, p2, p3, by simp, by simp, ?_, hr, fun u' F2' c2' hu => ⟨F1, G1 ++ F2' ++ G3, c1, p1 ++ c2' ++ p3, by simp, by simp, h1, hs u' F2' c2' hu⟩⟩
  rw [List.length_append, repD_len d c1 (ownD_rep (O := []) d F1 c1 (by simp) h1)]
  omega
mutual
theorem flat_F : ∀ (x : D) (F : List Nat) (cs : List Value), x.flat = true → ownD w x F cs → F = []
 | .int k n, F, cs, _, H => H.1
 | .bool b, F, cs, _, H => H.1
 | .str s, F, cs, _, H => H.1
 | .hole _ _ _, F, cs, _, H => H.1
 | .fnv _, F, cs, _, H => H.1
 | .raw _, F, cs, _, H => H.1
 | .lst xs, F, cs, hf, H => by cases hf
 | .st fs, F, cs, hf, H => flats_F fs F cs hf H
theorem flats_F : ∀ (x : List D) (F : List Nat) (cs : List Value), D.flats x = true → ownDs w x F cs → F = []
 | [], F, cs, _, H => H.1
 | f :: fs, F, cs, hf, H => by
  obtain ⟨F1, F2, c1, c2, rfl, rfl, h1, h2⟩ := H
  simp only [D.flats, Bool.and_eq_true] at hf
  rw [flat_F f F1 c1 hf.1 h1, flats_F fs F2 c2 hf.2 h2]; rfl
end
theorem ownD_upd : ∀ (p : List Nat) (v : D) (F : List Nat) (cs : List Value) (off : Nat) (u : D) (o : Nat) (x v' : D), ownD w v F cs → v.sub p off = some (u, o) → v.upd p x = some v' → u.flat = true →
  ∃ c1 c2 c3, cs = c1 ++ c2 ++ c3 ∧ off + c1.length = o ∧ c2.length = u.size ∧ ∀ cx, ownD w x [] cx → ownD w v' F (c1 ++ cx ++ c3)
 | [], v, F, cs, off, u, o, x, v', H, hs, hu, hf => by
  simp only [D.sub, Option.some.injEq, Prod.mk.injEq] at hs
  obtain ⟨rfl, rfl⟩ := hs
  have hF := flat_F v F cs hf H
  subst hF
  cases v <;> (cases hu; exact ⟨[], cs, [], by simp, rfl, repD_len _ cs (ownD_rep (O := []) _ [] cs (by simp) H), fun cx hx => by simpa using hx⟩)
 | i :: p, v, F, cs, off, u, o, x, v', H, hs, hu, hf => by
  cases v with
  | st fs =>
   simp only [D.sub] at hs
   simp only [D.upd] at hu
   split at hs
   ·rename_i u1 o1 h1
    obtain ⟨o', e1, e2⟩ := fldD_off fs i off 0 u1 o1 h1
    rw [e1] at hu
    dsimp only at hu
    split at hu
    ·rename_i u' hu'
     cases hu
     obtain ⟨F1, F2, F3, c1, c2, c3, rfl, rfl, e, hr, hset⟩ := ownDs_set fs F cs i off u1 o1 H h1
     obtain ⟨d1, d2, d3, rfl, e', hr', hset'⟩ := ownD_upd p u1 F2 c2 o1 u o x u' hr hs hu' hf
     refine ⟨c1 ++ d1, d2, d3 ++ c3, by simp, by rw [List.length_append]; omega, hr', fun cx hx => ?_⟩
     have := hset u' F2 _ (hset' cx hx)
     show ownDs w _ _ _
     simpa using this
    ·cases hu
   ·cases hs
  | int k n => simp [D.sub] at hs
  | bool k => simp [D.sub] at hs
  | str k => simp [D.sub] at hs
  | lst k => simp [D.sub] at hs
  | hole _ _ _ => simp [D.sub] at hs
  | fnv _ => simp [D.sub] at hs
  | raw _ => simp [D.sub] at hs
end
end Go.Proofs.YtpdeibhedafcfaaGreatDoor
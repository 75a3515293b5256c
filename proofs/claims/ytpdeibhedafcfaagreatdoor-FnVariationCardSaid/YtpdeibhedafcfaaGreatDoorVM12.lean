/- merged: several parts in one text. Leans on no more than they do. -/
import Derived.Test.YtpdeibhedafcfaaGreatDoorVMTake
import Derived.Lib.AppendStr
import Derived.Lib.AppendZerosOnto
set_option linter.unusedSimpArgs false
set_option linter.unusedVariables false
namespace Go.Proofs.YtpdeibhedafcfaaGreatDoor
open Go.RowKit
theorem set_last {α : Type} (h : List α) (x y : α) : (h ++ [x]).set h.length y = h ++ [y] := by
 induction h with
 | nil => rfl
 | cons a h ih => simp [ih]
def makeV (tt : TT) (t : Nat) (len cap : V) (h : List Blk) (K : V → List Blk → Prop) : Prop :=
 match tt t, len, cap with
 | some { kind := .sl e, .. }, .d (.int .i64 n), .d (.int .i64 c) => match tt e with
  | some ie => match zD ie.zero with
   | some z => MkW n c ie.bytes fun k => K (.own h.length 0 k) (h ++ [.arr ie.size (List.replicate k z) true])
   | none => False
  | none => False
 | _, _, _ => False
def inOrd : List (Nat × Operand) → Nat → Bool
 | [], _ => true
 | (i, _) :: ps, j => Nat.beq i j && inOrd ps (j + 1)
def partOps : List (Nat × Operand) → List Operand
 | [] => []
 | (_, x) :: ps => x :: partOps ps
def sizesB (n : Nat) : List V → Bool
 | [] => true
 | v :: vs => v.okc && Nat.beq v.size n && sizesB n vs
mutual
def V.tkB : V → Bool
 | .d x => x.flat
 | .nils => true
 | .own _ _ _ => true
 | .st fs => V.tksB fs
 | .top => false
 | .undef => false
 | .nilp => false
 | .pB _ _ _ => false
 | .pL _ _ _ _ => false
 | .pX _ => false
 | .fn _ _ => false
 | .tup _ => false
def V.tksB : List V → Bool
 | [] => true
 | v :: vs => v.tkB && V.tksB vs
end
def ownIs : List V → List Nat
 | [] => []
 | .own b _ _ :: vs => b :: ownIs vs
 | _ :: vs => ownIs vs
def exDs : List V → Option (List D)
 | [] => some []
 | .d x :: vs => match exDs vs with
  | some ys => some (x :: ys)
  | none => none
 | _ :: _ => none
def litV (tt : TT) (t len : Nat) (parts : List (Nat × Operand)) (e : Env) (h : List Blk) (K : V → Env → List Blk → Prop) : Prop :=
 match tt t with
 | some { kind := .sl el, .. } => match tt el with
  | some ie => bif inOrd parts 0 && Nat.beq parts.length len && Nat.ble (len * ie.size) 16777216 && sizesB ie.size (evs e (partOps parts)) && Nat.ble 1 ie.size then
    (bif V.tksB (evs e (partOps parts)) && nodupB (ownIs (evs e (partOps parts))) then tkVs h (evs e (partOps parts)) fun ys is => bif nodupB is then K (.own h.length 0 len) (dropE is e) ((goneL is (dropK is (h ++ [.gone]))).set h.length (.arr ie.size ys true)) else False
    else match exDs (evs e (partOps parts)) with
     | some ys => K (.own h.length 0 len) e (h ++ [.arr ie.size ys false])
     | none => bif Nat.beq ie.size 1 then K (.own h.length 0 len) e (h ++ [.box (.st (evs e (partOps parts)))]) else False)
   else False
  | none => False
 | _ => False
theorem rep_live {h : List Blk} {is : List Nat} (H : ∀ i ∈ is, ∃ n xs, h[i]? = some (Blk.arr n xs true)) : ∀ i ∈ is, ∃ k, h[i]? = some k ∧ k.live = true := fun i hi => by
 obtain ⟨n, xs, hk⟩ := H i hi
 exact ⟨_, hk, rfl⟩
section
variable {P : Program} {tt : TT} {B : World} {X : List Nat} {N : Nat} {M : MM} {e : Env} {h : List Blk} {a : Act} {w : World}
theorem make_sound (hT : TOk P tt) (R : Rep B X N M e h a w) {t : Nat} {len cap : V} {cl cc : Value} (hl : rep w M h len cl) (hc : rep w M h cap cc) {K : V → List Blk → Prop} (H : makeV tt t len cap h K) :
  ∃ v cv h' M' w', K v h' ∧ (Instr.makeSlice t cl cc).run P w = .ok cv w' ∧ Ext w w' ∧ Rep B X N M' e h' a w' ∧ rep w' M' h' v cv := by
 unfold makeV at H
 split at H
 ·rename_i el sz by' zr eq0 n c hti
  obtain ⟨fi, d, z, h1, h2, h3, h4, h5, h6, h7, h8, h9⟩ := (hT t _ hti).ex
  cases d <;> first
   | exact (h6 : False).elim
   | skip
  cases (h6 : _ = el)
  split at H
  ·rename_i ie hie
   obtain ⟨fe, de, ze, e1, e2, e3, e4, e5, e6, e7, e8, e9⟩ := (hT _ _ hie).ex
   split at H
   ·rename_i zd hz
    obtain ⟨⟨k1, k2, k3, H⟩⟩ := H
    obtain ⟨rfl, i1⟩ := rep_int.1 hl
    obtain ⟨rfl, i2⟩ := rep_int.1 hc
    have zr1 := rep1_cells (e7 w M h)
    obtain ⟨z1, z2⟩ := zD_own _ zd _ hz zr1
    have zsz : ze.cells.toList.length = ie.size := by rw [Array.length_toList]; exact e8
    have zds : zd.size = ie.size := by
     rw [z2, ← repC_len _ _ zr1, zsz]
    have hw1 : IntKind.i64.wrap n = n := IntWalk.i64_in _ (by have := i1.1; have := i1.2; simp only [IntKind.min, IntKind.max, IntKind.bits, IntKind.signed, if_true] at *; omega)
    have hw2 : IntKind.i64.wrap c = c := IntWalk.i64_in _ (by have := i2.1; have := i2.2; simp only [IntKind.min, IntKind.max, IntKind.bits, IntKind.signed, if_true] at *; omega)
    have hcm : c.toNat ≤ maxLen := by
     have := i2.2
     simp only [IntKind.max, IntKind.bits, IntKind.signed, if_true] at this
     unfold maxLen
     omega
    let arr : Array Value := (Array.range (c.toNat * ie.size)).map (ze.cells[· % ze.cells.size]!)
    have hat : ∀ k j, k < c.toNat → j < ie.size → arr[k * ie.size + j]? = ze.cells[j]? := fun k j hk hj => by
     have hlt : k * ie.size + j < c.toNat * ie.size := by
      have := Nat.mul_le_mul_right ie.size (Nat.succ_le_of_lt hk)
      rw [Nat.succ_mul] at this
      omega
     have hm : (k * ie.size + j) % ze.cells.size = j := by
      rw [e8, Nat.add_comm, Nat.add_mul_mod_self_right, Nat.mod_eq_of_lt hj]
     have hj' : j < ze.cells.size := by omega
     simp [arr, hlt, hm, hj']
    have hown : ∀ (m i : Nat), i + m ≤ c.toNat → ownDe w arr ie.size (List.replicate m zd) i [] := by
     intro m
     induction m with
     | zero => intro i _; rfl
     | succ m ih =>
      intro i hi
      refine ⟨[], [], ze.cells.toList, rfl, zds, fun j v hj => ?_, z1, ih (i + 1) (by omega)⟩
      have hjl : j < ie.size := by rw [← zsz]; exact (List.getElem?_eq_some_iff.1 hj).1
      rw [hat i j (by omega) hjl, ← Array.getElem?_toList]
      exact hj
    obtain ⟨M', R', hv⟩ := R.newRow (arr := arr) (t := el) (n := ie.size) (cap := c.toNat) (xs := List.replicate n.toNat zd) (dp := true) (is := []) (ks := []) (F := []) (w1 := w) (Ext.refl w) rfl (by simp [arr]) (by simp; omega) hcm (by simp) (by simp) (by simp) (by simp)
     (by rw [if_pos rfl]; exact hown n.toNat 0 (by omega))
    simp only [dropE, dropK, goneL, set_last, List.length_replicate] at R' hv
    refine ⟨_, _, _, M', _, H, ?_, ext_alloc w _, R', hv⟩
    have t1 : ¬ (c < 0 ∨ 2 ^ 48 < ie.bytes * c) := by omega
    simp only [Instr.makeSlice, Sem.run_bind, run_underlying h5, Result.andThen_ok, asInt, asIntOf, Sem.run_pure, typeInfo, run_program, e1, hw1, hw2, e3]
    rw [if_neg]
    ·simp only [Sem.run_bind, run_askRoom, Result.andThen_ok, sizeOf, typeInfo, run_program, e1, Sem.run_pure, e2, zeroValue, e4]
     by_cases h0 : c.toNat * ie.size = 0
     ·simp only [h0, if_true, Sem.run_pure, Result.andThen_ok, newRow, Sem.run_bind, run_newObj]
      have : arr = #[] := by
       apply Array.eq_empty_of_size_eq_zero
       simp [arr, h0]
      rw [this]
      have hr0 : Array.range 0 = #[] := rfl
      simp [World.alloc_eq, hr0]
      try rfl
     ·simp only [h0, if_false, Sem.run_bind, run_program, Result.andThen_ok, e1, Sem.run_pure, e4, newRow, run_newObj]
      rfl
    ·simp only [Bool.or_eq_true, decide_eq_true_eq, gt_iff_lt, not_or]
     refine ⟨⟨?_, by omega⟩, by omega⟩
     omega
   ·exact H.elim
  ·exact H.elim
 ·exact H.elim
theorem evs_repC (R : Rep B X N M e h a w) {n : Nat} : ∀ (xs : List Operand), (∀ x ∈ xs, cOK x = true) → sizesB n (evs e xs) = true →
  ∃ css : List (List Value), (xs.map a.eval).map (fun v => v.cells.toList) = css ∧ (∀ cs ∈ css, cs.length = n) ∧ repCs w M h (evs e xs) css.flatten
 | [], _, _ => ⟨[], rfl, by simp, rfl⟩
 | x :: xs, hc, hs => by
  simp only [evs, sizesB, Bool.and_eq_true, nbeq] at hs
  obtain ⟨css, k1, k2, k3⟩ := evs_repC R xs (fun y hy => hc y (by simp [hy])) hs.2
  have h1 := rep1_cells (rep1_of_rep hs.1.1 (ev_rep R.env x (hc x (by simp))))
  refine ⟨(a.eval x).cells.toList :: css, by simp [k1], fun cs hm => ?_, ⟨_, _, rfl, h1, k3⟩⟩
  rcases List.mem_cons.1 hm with rfl | hm
  ·rw [repC_len _ _ h1]; exact hs.1.2
  ·exact k2 cs hm
theorem fill_row {n : Nat} : ∀ (vs : List Value) (j : Nat) (done : List Value) (rest : List Value) (zs : List Value), done.length = j * n → (∀ v ∈ vs, v.cells.size = n) → zs.length = vs.length * n →
  Instr.fill (fun i => some (i * n, n)) (done ++ zs ++ rest).toArray ((List.range' j vs.length).zip vs) = some (done ++ (vs.map fun v => v.cells.toList).flatten ++ rest).toArray
 | [], j, done, rest, zs, hd, _, hz => by
  have : zs = [] := List.eq_nil_of_length_eq_zero (by simpa using hz)
  subst this
  simp [Instr.fill]
 | v :: vs, j, done, rest, zs, hd, hs, hz => by
  have hv := hs v (by simp)
  have hvl : v.cells.toList.length = n := by rw [Array.length_toList, hv]
  simp only [List.length_cons, Nat.succ_mul] at hz
  simp only [List.length_cons, List.range'_succ, List.zip_cons_cons, Instr.fill]
  rw [if_neg]
  ·have hput : ∀ (cs : List Value) (k : Nat) (d z r : List Value), d.length = j * n + k → z.length = cs.length → (cs.zipIdx k).foldl (fun (acc : Array Value) (p : Value × Nat) => acc.setIfInBounds (j * n + p.2) p.1) (d ++ z ++ r).toArray = (d ++ cs ++ r).toArray := by
    intro cs
    induction cs with
    | nil => intro k d z r _ hz; have : z = [] := List.eq_nil_of_length_eq_zero (by simpa using hz); subst this; simp
    | cons c cs ih =>
     intro k d z r hd hz
     cases z with
     | nil => simp at hz
     | cons z0 z =>
      simp only [List.zipIdx_cons, List.foldl_cons]
      have : (d ++ (z0 :: z) ++ r).toArray.setIfInBounds (j * n + k) c = ((d ++ [c]) ++ z ++ r).toArray := by
       apply Array.ext'
       simp only [Array.toList_setIfInBounds, List.append_assoc]
       rw [← hd]
       simp
      rw [this, ih (k + 1) (d ++ [c]) z r (by simp [hd]; omega) (by simpa using hz)]
      simp
   have hsplit : zs = zs.take n ++ zs.drop n := (List.take_append_drop n zs).symm
   have e1 : v.cells.zipIdx.foldl (fun cs (x : Value × Nat) => cs.setIfInBounds (j * n + x.2) x.1) (done ++ zs ++ rest).toArray = (done ++ v.cells.toList ++ (zs.drop n ++ rest)).toArray := by
    rw [← Array.foldl_toList, Array.toList_zipIdx]
    have := hput v.cells.toList 0 done (zs.take n) (zs.drop n ++ rest) (by simpa using hd) (by rw [List.length_take, hvl]; omega)
    have es : done ++ zs.take n ++ (zs.drop n ++ rest) = done ++ zs ++ rest := by
     simp only [List.append_assoc]
     rw [← List.append_assoc (zs.take n), List.take_append_drop]
    rw [es] at this
    exact this
   have e2 := fill_row vs (j + 1) (done ++ v.cells.toList) rest (zs.drop n) (by rw [List.length_append, hvl, hd, Nat.succ_mul]) (fun u hu => hs u (by simp [hu])) (by rw [List.length_drop]; omega)
   have e3 : (done ++ v.cells.toList ++ (zs.drop n ++ rest)) = (done ++ v.cells.toList ++ zs.drop n ++ rest) := by simp
   rw [e3] at e1
   have e4 : (v.cells.zipIdx.foldl (fun cs (x : Value × Nat) => match x with | (c, k) => cs.setIfInBounds (j * n + k) c) (done ++ zs ++ rest).toArray) = (done ++ v.cells.toList ++ zs.drop n ++ rest).toArray := e1
   rw [e4, e2]
   simp
  ·simp only [Bool.or_eq_true, decide_eq_true_eq, ne_eq, not_or, Decidable.not_not, gt_iff_lt]
   refine ⟨hv, ?_⟩
   simp only [List.size_toArray, List.length_append]
   omega
theorem ownDs_row {n : Nat} : ∀ (ys : List D) (css : List (List Value)) (F : List Nat), (∀ cs ∈ css, cs.length = n) → (∀ y ∈ ys, y.size = n) → ownDs w ys F css.flatten → ys.length = css.length → ownDe w css.flatten.toArray n ys 0 F
 | [], css, F, _, _, H, hl => by
  cases css with
  | nil => exact H.1
  | cons _ _ => simp at hl
 | y :: ys, [], F, _, _, _, hl => by simp at hl
 | y :: ys, cs :: css, F, hc, hs, H, hl => by
  obtain ⟨F1, F2, c1, c2, rfl, e, h1, h2⟩ := H
  have l1 := repD_len y c1 (ownD_rep (O := []) y F1 c1 (by simp) h1)
  have l2 := hs y (by simp)
  have l3 := hc cs (by simp)
  rw [List.flatten_cons] at e
  obtain ⟨rfl, rfl⟩ := List.append_inj e.symm (by omega)
  have ih := ownDs_row ys css F2 (fun c hm => hc c (by simp [hm])) (fun z hm => hs z (by simp [hm])) h2 (by simpa using hl)
  refine ⟨F1, F2, c1, rfl, l2, fun j v hj => ?_, h1, ?_⟩
  ·have hlt : j < c1.length := (List.getElem?_eq_some_iff.1 hj).1
   simp [List.getElem?_append_left hlt, hj]
  ·refine ownDe_at ys 0 1 F2 (fun k hk j hj => ?_) ih
   simp only [List.getElem?_toArray, List.flatten_cons]
   rw [Nat.zero_add, List.getElem?_append_right (by rw [Nat.add_mul]; omega)]
   congr 1
   rw [Nat.add_mul]; omega
theorem ext_row {O : List Nat} {n : Nat} : ∀ (ys : List D) (css : List (List Value)), (∀ cs ∈ css, cs.length = n) → (∀ y ∈ ys, y.size = n) → repDs O w ys css.flatten → ys.length = css.length → extDe O w css.flatten.toArray n ys 0
 | [], css, _, _, H, hl => trivial
 | y :: ys, [], _, _, _, hl => by simp at hl
 | y :: ys, cs :: css, hc, hs, H, hl => by
  obtain ⟨c1, c2, e, h1, h2⟩ := H
  have l1 := repD_len y c1 h1
  have l2 := hs y (by simp)
  have l3 := hc cs (by simp)
  rw [List.flatten_cons] at e
  obtain ⟨rfl, rfl⟩ := List.append_inj e.symm (by omega)
  have ih := ext_row ys css (fun c hm => hc c (by simp [hm])) (fun z hm => hs z (by simp [hm])) h2 (by simpa using hl)
  refine ⟨⟨c1, l2, fun j v hj => ?_, h1⟩, ?_⟩
  ·have hlt : j < c1.length := (List.getElem?_eq_some_iff.1 hj).1
   simp [List.getElem?_append_left hlt, hj]
  ·refine extDe_at ys 0 1 (fun k hk j hj => ?_) ih
   simp only [List.getElem?_toArray, List.flatten_cons]
   rw [Nat.zero_add, List.getElem?_append_right (by rw [Nat.add_mul]; omega)]
   congr 1
   rw [Nat.add_mul]; omega
theorem exDs_rep : ∀ (vs : List V) (ys : List D) (cs : List Value), exDs vs = some ys → repCs w M h vs cs → repDs M.O w ys cs ∧ ys.length = vs.length
 | [], ys, cs, H, R => by cases H; exact ⟨R, rfl⟩
 | v :: vs, ys, cs, H, R => by
  cases v <;> simp only [exDs] at H <;> first
   | (cases H; done)
   | skip
  rename_i x
  split at H
  ·rename_i ys' hy
   cases H
   obtain ⟨c1, c2, e, r1, r2⟩ := R
   obtain ⟨k1, k2⟩ := exDs_rep vs ys' c2 hy r2
   exact ⟨⟨c1, c2, e, r1, k1⟩, by simp [k2]⟩
  ·cases H
theorem exDs_size {n : Nat} : ∀ (vs : List V) (ys : List D), exDs vs = some ys → sizesB n vs = true → ∀ y ∈ ys, y.size = n
 | [], ys, H, _ => by cases H; simp
 | v :: vs, ys, H, hs => by
  cases v <;> simp only [exDs] at H <;> first
   | (cases H; done)
   | skip
  rename_i x
  split at H
  ·rename_i ys' hy
   cases H
   simp only [sizesB, Bool.and_eq_true, nbeq] at hs
   intro y hm
   rcases List.mem_cons.1 hm with rfl | hm
   ·exact hs.1.2
   ·exact exDs_size vs ys' hy hs.2 y hm
  ·cases H
theorem tks_sizes {B : Nat} {n : Nat} (hI : MInv B w M h) : ∀ (vs : List V) (css : List (List Value)) (K : List D → List Nat → Prop), tkVs h vs K → repCs w M h vs css.flatten → sizesB n vs = true → (∀ cs ∈ css, cs.length = n) → vs.length = css.length →
  ∃ ys is F, K ys is ∧ ownDs w ys F css.flatten ∧ (∀ y ∈ ys, y.size = n) ∧ ys.length = vs.length ∧ (is.Nodup → F.Nodup) ∧ (∀ x ∈ F, ∃ i ∈ is, ∃ m, M[i]? = some m ∧ x ∈ mO m) ∧ (∀ i ∈ is, ∃ n xs, h[i]? = some (.arr n xs true)) := by
 intro vs css K H R hs hc hl
 have key : ∀ (vs : List V) (cs : List Value) (K : List D → List Nat → Prop), tkVs h vs K → repCs w M h vs cs → sizesB n vs = true →
   ∃ ys is F, K ys is ∧ ownDs w ys F cs ∧ (∀ y ∈ ys, y.size = n) ∧ ys.length = vs.length ∧ (is.Nodup → F.Nodup) ∧ (∀ x ∈ F, ∃ i ∈ is, ∃ m, M[i]? = some m ∧ x ∈ mO m) ∧ (∀ i ∈ is, ∃ n xs, h[i]? = some (.arr n xs true)) := by
  intro vs
  induction vs with
  | nil => intro cs K H R _; exact ⟨[], [], [], H, ⟨rfl, R⟩, by simp, rfl, fun _ => by simp, by simp, by simp⟩
  | cons v vs ih =>
   intro cs K H R hs
   simp only [sizesB, Bool.and_eq_true, nbeq] at hs
   obtain ⟨c1, c2, e, r1, r2⟩ := R
   obtain ⟨y, i1, F1, H1, k2, k3, k4, k5, k6⟩ := tk_sound hI v c1 _ H r1
   obtain ⟨ys, i2, F2, H2, l2, l3, ln, l4, l5, l6⟩ := ih c2 _ H1 r2 hs.2
   refine ⟨y :: ys, i1 ++ i2, F1 ++ F2, H2, ⟨F1, F2, c1, c2, rfl, e, k2, l2⟩, fun z hz => ?_, by simp [ln], fun hn => ?_, fun x hx => ?_, fun i hi => ?_⟩
   ·rcases List.mem_cons.1 hz with rfl | hz
    ·rw [k3]; exact hs.1.2
    ·exact l3 z hz
   ·obtain ⟨n1, n2, n3⟩ := List.nodup_append.1 hn
    refine List.nodup_append.2 ⟨k4 n1, l4 n2, fun x hx y hy e => ?_⟩
    subst e
    obtain ⟨i, hi, m, hm, hxm⟩ := k5 x hx
    obtain ⟨j, hj, m', hm', hxm'⟩ := l5 x hy
    have := O_block_inj hI hm hm' hxm hxm'
    subst this
    exact n3 _ hi _ hj rfl
   ·rcases List.mem_append.1 hx with hx | hx
    ·obtain ⟨i, hi, r⟩ := k5 x hx
     exact ⟨i, by simp [hi], r⟩
    ·obtain ⟨i, hi, r⟩ := l5 x hx
     exact ⟨i, by simp [hi], r⟩
   ·rcases List.mem_append.1 hi with hi | hi
    ·exact k6 i hi
    ·exact l6 i hi
 exact key vs _ K H R hs
theorem parts_zip : ∀ (ps : List (Nat × Operand)) (j : Nat), inOrd ps j = true → ps.map (fun (i, x) => (i, a.eval x)) = (List.range' j ps.length).zip ((partOps ps).map a.eval)
 | [], j, _ => rfl
 | (i, x) :: ps, j, H => by
  simp only [inOrd, Bool.and_eq_true, nbeq] at H
  simp only [List.map_cons, partOps, List.length_cons, List.range'_succ, List.zip_cons_cons, H.1, parts_zip ps (j + 1) H.2]
theorem partOps_len : ∀ ps : List (Nat × Operand), (partOps ps).length = ps.length
 | [] => rfl
 | (_, _) :: ps => by simp [partOps, partOps_len ps]
theorem evs_len (e : Env) : ∀ xs : List Operand, (evs e xs).length = xs.length
 | [] => rfl
 | x :: xs => by simp [evs, evs_len e xs]
theorem lit_sound (hT : TOk P tt) (R : Rep B X N M e h a w) {t len : Nat} {ps : List (Nat × Operand)} (hc : ∀ x ∈ partOps ps, cOK x = true) {K : V → Env → List Blk → Prop} (H : litV tt t len ps e h K) :
  ∃ v cv e' h' M' w', K v e' h' ∧ (Instr.buildSlice t len (ps.map fun (i, x) => (i, a.eval x)).toArray).run P w = .ok cv w' ∧ Ext w w' ∧ Rep B X N M' e' h' a w' ∧ rep w' M' h' v cv := by
 unfold litV at H
 split at H
 ·rename_i el sz by' zr eq0 hti
  obtain ⟨fi, d, z, h1, h2, h3, h4, h5, h6, h7, h8, h9⟩ := (hT t _ hti).ex
  cases d <;> first
   | exact (h6 : False).elim
   | skip
  cases (h6 : _ = el)
  split at H
  ·rename_i ie hie
   obtain ⟨fe, de, ze, e1, e2, e3, e4, e5, e6, e7, e8, e9⟩ := (hT _ _ hie).ex
   cases hq : (inOrd ps 0 && Nat.beq ps.length len && Nat.ble (len * ie.size) 16777216 && sizesB ie.size (evs e (partOps ps)) && Nat.ble 1 ie.size) with
   | false => rw [hq] at H; exact H.elim
   | true =>
    rw [hq] at H
    simp only [Bool.and_eq_true, nbeq] at hq
    obtain ⟨⟨⟨⟨q1, rfl⟩, q3⟩, q4⟩, q5⟩ := hq
    have q3' := Nat.le_of_ble_eq_true q3
    obtain ⟨css, c1, c2, c3⟩ := evs_repC R (partOps ps) hc q4
    have hcl : css.length = ps.length := by rw [← c1]; simp [partOps_len]
    have hfl : ∀ css : List (List Value), (∀ cs ∈ css, cs.length = ie.size) → css.flatten.length = css.length * ie.size := by
     intro css
     induction css with
     | nil => simp
     | cons c css ih => intro hh; simp [ih (fun x hx => hh x (by simp [hx])), hh c (by simp), Nat.succ_mul]; omega
    have hfl' := hfl css c2
    -- the run
    have hrun : (Instr.buildSlice t ps.length (ps.map fun (i, x) => (i, a.eval x)).toArray).run P w = .ok (.slice (some ⟨w.heap.size, 0, none⟩) ps.length ps.length) (w.alloc (.cells css.flatten.toArray el)) := by
     have hfill := fill_row (n := ie.size) ((partOps ps).map a.eval) 0 [] [] ((List.range (ps.length * ie.size)).map fun i => ze.cells[i % ze.cells.size]!) (by simp) (fun v hv => by
      have : v.cells.toList ∈ css := by rw [← c1]; exact List.mem_map_of_mem hv
      have := c2 _ this
      rw [Array.length_toList] at this
      exact this) (by simp [partOps_len])
     rw [List.length_map, partOps_len, ← parts_zip ps 0 q1] at hfill
     rw [c1] at hfill
     simp only [List.nil_append, List.append_nil] at hfill
     have hz : ((Array.range (ps.length * ie.size)).map (ze.cells[· % ze.cells.size]!)) = ((List.range (ps.length * ie.size)).map fun i => ze.cells[i % ze.cells.size]!).toArray := by
      apply Array.ext'
      simp
     have hlim : ¬ (ps.length * ie.size > 2 ^ 24) := by omega
     simp only [Instr.buildSlice, Sem.run_bind, run_underlying h5, Result.andThen_ok, sizeOf, typeInfo, run_program, e1, Sem.run_pure, e2, hlim, if_false]
     by_cases h0 : ps.length * ie.size = 0
     ·have hcs : css.flatten = [] := List.eq_nil_of_length_eq_zero (by rw [hfl', hcl, h0])
      have hp : ps = [] := by
       have h1 : 1 ≤ ie.size := Nat.le_of_ble_eq_true q5
       have : ps.length = 0 := by
        rcases Nat.mul_eq_zero.1 h0 with h | h
        ·exact h
        ·omega
       exact List.eq_nil_of_length_eq_zero this
      subst hp
      have hr0 : Array.range 0 = #[] := rfl
      simp [hcs, hr0, Instr.fill, newRow, World.alloc_eq]
     ·simp only [h0, if_false, zeroValue, typeInfo, Sem.run_bind, run_program, Result.andThen_ok, e1, Sem.run_pure, e4]
      rw [hz, hfill]
      simp only [newRow, Sem.run_bind, run_newObj, Result.andThen_ok, Sem.run_pure]
      rfl
    have hev : (evs e (partOps ps)).length = css.length := by rw [evs_len, partOps_len, hcl]
    have hcap : ps.length ≤ maxLen := by
     rcases Nat.eq_zero_or_pos ie.size with h0 | h0
     ·exact absurd h0 (fun e => by rw [e] at q5; cases q5)
     ·have : ps.length * 1 ≤ ps.length * ie.size := Nat.mul_le_mul_left _ h0
      unfold maxLen
      omega
    simp only [cond_true] at H
    cases ht : (V.tksB (evs e (partOps ps)) && nodupB (ownIs (evs e (partOps ps)))) with
    | true =>
     rw [ht] at H
     simp only [Bool.and_eq_true] at ht
     simp only [cond_true] at H
     obtain ⟨ys, is, F, k1, k2, k3, kn, k4, k5, k6⟩ := tks_sizes R.inv _ css _ H c3 q4 c2 hev
     cases hn : nodupB is with
     | false => rw [hn] at k1; exact k1.elim
     | true =>
      rw [hn] at k1
      have hrow := ownDs_row ys css F c2 k3 k2 (by rw [kn, hev])
      have hyl : ys.length = ps.length := by rw [kn, hev, hcl]
      obtain ⟨M', R', hv⟩ := R.newRow (arr := css.flatten.toArray) (t := el) (n := ie.size) (cap := ps.length) (xs := ys) (dp := true) (is := is) (ks := is) (F := F) (w1 := w) (Ext.refl w) rfl (by rw [List.size_toArray, hfl', hcl]) (by omega) hcap (fun i hi => hi) (k4 (nodupB_spec is hn)) k5 (rep_live k6)
       (by rw [if_pos rfl]; exact hrow)
      rw [hyl] at hv
      exact ⟨_, _, _, _, M', _, k1, hrun, ext_alloc w _, R', hv⟩
    | false =>
     rw [ht] at H
     simp only [cond_false] at H
     split at H
     ·rename_i ys hys
      obtain ⟨k1, k2⟩ := exDs_rep _ ys _ hys c3
      have hrow := ext_row ys css c2 (exDs_size _ ys hys q4) k1 (by rw [k2, hev])
      have hyl : ys.length = ps.length := by rw [k2, hev, hcl]
      obtain ⟨M', R', hv⟩ := R.newRow (arr := css.flatten.toArray) (t := el) (n := ie.size) (cap := ps.length) (xs := ys) (dp := false) (is := []) (ks := []) (F := []) (w1 := w) (Ext.refl w) rfl (by rw [List.size_toArray, hfl', hcl]) (by omega) hcap (by simp) (by simp) (by simp) (by simp)
       (by rw [if_neg (by simp)]; exact ⟨rfl, hrow⟩)
      simp only [dropE, dropK, goneL, set_last] at R' hv
      rw [hyl] at hv
      exact ⟨_, _, _, _, M', _, H, hrun, ext_alloc w _, R', hv⟩
     ·cases hb : Nat.beq ie.size 1 with
      | false => rw [hb] at H; exact H.elim
      | true =>
       rw [hb] at H
       simp only [cond_true] at H
       obtain ⟨hI, mv⟩ := push_box (v := .st (evs e (partOps ps))) (t := el) R.inv R.base (by simp only [repC]; exact c3)
       have hnf : nOf (h ++ [Blk.box (.st (evs e (partOps ps)))]) h.length = 0 := by simp [nOf]
       refine ⟨_, _, _, _, _, _, H, hrun, ext_alloc w _, R.step (R.ext.alloc _) hI mv (fr_push R.fr _) (fr_push R.fh _), rep_own.2 ⟨_, ps.length, rfl, Nat.le_refl _, hcap, by simp, .inr ⟨w.heap.size, [], css.flatten.toArray, el, ?_, ?_, heap_new w _, ?_⟩⟩⟩
       ·rw [← R.inv.len, List.getElem?_append_right (Nat.le_refl _)]; simp
       ·simp
       ·rw [hnf]; omega
  ·exact H.elim
 ·exact H.elim
end
def srcV (h : List Blk) (n : Nat) (x : V) (K : List D → List Nat → Bool → Prop) : Prop :=
 match x with
 | .nils => K [] [] true
 | .d (.lst ys) => FlW ys n (K ys [] true) (K ys [] false)
 | .d (.str s) => bif Nat.beq n 1 then K (s.data.toList.map bD) [] true else False
 | .own c off len => match h[c]? with
  | some (.arr n' ys dp) => bif Nat.beq n' n then TkW off len ys (K ys [c] dp) else False
  | _ => False
 | _ => False
def srcX (n : Nat) (x : V) (K : List D → Prop) : Prop :=
 match x with
 | .d (.lst ys) => SzW n ys (K ys)
 | _ => False
def isSrc : Option TI → V → Bool
 | some { kind := .str, .. }, .d (.str _) => true
 | some { kind := .sl _, .. }, .d (.str _) => false
 | some { kind := .sl _, .. }, _ => true
 | _, _ => false
theorem isSrc_spec {P : Program} {tt : TT} (hT : TOk P tt) {tx : Nat} {x : V} (H : isSrc (tt tx) x = true) : (∃ ex, P.underlying tx = some (.slice ex)) ∨ P.underlying tx = some .string := by
 cases hi : tt tx with
 | none => rw [hi] at H; cases H
 | some i =>
  obtain ⟨f, d, z, h1, h2, h3, h4, h5, h6, _⟩ := (hT tx i hi).ex
  rw [hi] at H
  obtain ⟨k, sz, b, z0, eq⟩ := i
  cases k <;> first
   | (cases H; done)
   | (cases d <;> first
     | exact (h6 : False).elim
     | exact .inr h5
     | exact .inl ⟨_, h5⟩)
def appV (tt : TT) (t tx : Nat) (s x : V) (e : Env) (h : List Blk) (K : V → Env → List Blk → Prop) : Prop :=
 match tt t with
 | some { kind := .sl el, .. } => bif isSrc (tt tx) x then (match tt el with
  | some ie => bif Nat.ble 1 ie.size then (match s with
   | .nils => srcV h ie.size x fun ys is dp => ApW ys.length ie.bytes (K (.own h.length 0 ys.length) (dropE (h.length :: is) e) ((goneL is (dropK (h.length :: is) (h ++ [.gone]))).set h.length (.arr ie.size ys dp)))
   | .own b off len => match h[b]? with
    | some (.arr n xs dp) => bif Nat.beq n ie.size then OffW off len xs.length (srcV h n x fun ys is dp' => bif (dp == dp') && !is.any (Nat.beq b) then
      ApW (len + ys.length) ie.bytes (K (.own b 0 (len + ys.length)) (dropE (b :: is) e) ((goneL is (dropK (b :: is) h)).set b (.arr n (xs.take len ++ ys) dp))) else False) else False
    | _ => False
   | _ => False) else False
  | none => False) else False
 | _ => False
section
variable {P : Program} {w : World}
theorem run_app_sl {t tx ty el : TypeId} {i : TypeInfo} {z : Value} {ex : TypeId} (ht : P.underlying t = some (.slice el)) (hx : P.underlying tx = some (.slice ex)) (hi : P.info? el = some i) (hz : i.zero = some z)
  {base : Option Addr} {sLen sCap : Nat} {x : Value} {k : Nat} {olds news : List Value} (hk : ∀ w', (Builtin.lenOf x).run P w' = .ok k w') (hnews : ∀ w', Ext w w' → (Builtin.firstCells i.size k x).run P w' = .ok news.toArray w') (hnl : news.length = k * i.size)
  (h1 : ∀ c ∈ news, c.oneCell' = true) (holds : ∀ w', Ext w w' → (Builtin.firstCells i.size sLen (.slice base sLen sCap)).run P w' = .ok olds.toArray w') (hol : olds.length = sLen * i.size)
  (hbase : base = none → sCap = 0) (hn : sLen + k ≤ maxLen) (hb : (sLen + k) * i.bytes ≤ 140737488355328)
  (hroom : sCap ≠ 0 → ∃ g arr t', base = some ⟨g, 0, none⟩ ∧ w.heap[g]? = some (.cells arr t' (0, 0)) ∧ sCap * i.size ≤ arr.size) (hle : sLen ≤ sCap) :
  (sCap < sLen + k ∧ ∃ cap, sLen + k ≤ cap ∧ cap ≤ maxLen ∧ ∃ rest : List Value, rest.length = (cap - (sLen + k)) * z.cells.size ∧
   (Builtin.append_ #[t, tx] ty #[.slice base sLen sCap, x]).run P w = .ok (.slice (some ⟨w.heap.size, 0, none⟩) (sLen + k) cap) (w.drew.alloc (.cells (olds ++ news ++ rest).toArray el))) ∨
  (sLen + k ≤ sCap ∧ sCap = 0 ∧ (Builtin.append_ #[t, tx] ty #[.slice base sLen sCap, x]).run P w = .ok (.slice base 0 0) w) ∨
  (sLen + k ≤ sCap ∧ sCap ≠ 0 ∧ ∃ g arr t', base = some ⟨g, 0, none⟩ ∧ w.heap[g]? = some (.cells arr t' (0, 0)) ∧ sCap * i.size ≤ arr.size ∧
   (Builtin.append_ #[t, tx] ty #[.slice base sLen sCap, x]).run P w = .ok (.slice base (sLen + k) sCap) (w.setRow g (arr.toList.take (sLen * i.size) ++ news ++ arr.toList.drop (sLen * i.size + news.length)).toArray)) := by
 rcases Nat.lt_or_ge sCap (sLen + k) with hg | hg
 ·refine .inl ⟨hg, grownCap w (sLen + k) sCap el, grownCap_ge w _ _ el, grownCap_le_maxLen w _ _ el hn, (Builtin.zeroCells z.cells (grownCap w (sLen + k) sCap el - (sLen + k))).toList, by rw [Array.length_toList, size_zeroCells], ?_⟩
  have hn' : ¬ (sLen + k ≤ sCap) := by omega
  have h63' : ¬ (9223372036854775807 < ((sLen : Int) + (k : Int))) := by
   unfold maxLen at hn
   omega
  have h48' : ¬ (281474976710656 < Builtin.nextslicecap (sLen + k) sCap * i.bytes) := by
   have := growslice_fits hg hb
   omega
  have e1 := hnews w.drew (Ext.refl w).drew
  have e2 := holds w.drew (Ext.refl w).drew
  simp [Builtin.append_, run_underlying ht, run_underlying hx, sizeOf, typeInfo, zeroValue, hi, hz, hk, hn', h63', h48', Question.forced, e1, e2, newRow, grownCap]
  congr 2
  apply Array.ext'
  simp
 ·by_cases hc : sCap = 0
  ·refine .inr (.inl ⟨hg, hc, ?_⟩)
   have hs0 : sLen = 0 := by omega
   have hk0 : k = 0 := by omega
   subst hs0
   subst hk0
   subst hc
   have hn0 : news = [] := List.eq_nil_of_length_eq_zero (by simpa using hnl)
   subst hn0
   have e1 := hnews w (Ext.refl w)
   cases base with
   | none => simp [Builtin.append_, run_underlying ht, run_underlying hx, sizeOf, typeInfo, hi, hk, e1]
   | some ad => simp [Builtin.append_, run_underlying ht, run_underlying hx, sizeOf, typeInfo, hi, hk, e1, storeCells]
  ·obtain ⟨g, arr, t', rfl, hgw, hfit⟩ := hroom hc
   refine .inr (.inr ⟨hg, hc, g, arr, t', rfl, hgw, hfit, ?_⟩)
   have e1 := hnews w (Ext.refl w)
   have hle2 : (sLen + k) * i.size ≤ arr.size := Nat.le_trans (Nat.mul_le_mul_right _ hg) hfit
   rw [Nat.add_mul] at hle2
   have hst := run_storeCells_at P g (sLen * i.size) t' news 0 arr w hgw (by omega) h1
   simp only [Nat.add_zero] at hst
   simp [Builtin.append_, run_underlying ht, run_underlying hx, sizeOf, typeInfo, hi, hk, hg, e1, addr_add_plain, hst]
theorem run_app_st {t tx ty el : TypeId} {i : TypeInfo} {z : Value} (ht : P.underlying t = some (.slice el)) (hx : P.underlying tx = some .string) (hi : P.info? el = some i) (hz : i.zero = some z)
  {base : Option Addr} {sLen sCap : Nat} {x : Value} {k : Nat} {olds news : List Value} (hk : ∀ w', (Builtin.lenOf x).run P w' = .ok k w') (hnews : ∀ w', Ext w w' → (Builtin.firstCells i.size k x).run P w' = .ok news.toArray w') (hnl : news.length = k * i.size)
  (h1 : ∀ c ∈ news, c.oneCell' = true) (holds : ∀ w', Ext w w' → (Builtin.firstCells i.size sLen (.slice base sLen sCap)).run P w' = .ok olds.toArray w') (hol : olds.length = sLen * i.size)
  (hbase : base = none → sCap = 0) (hn : sLen + k ≤ maxLen) (hb : (sLen + k) * i.bytes ≤ 140737488355328)
  (hroom : sCap ≠ 0 → ∃ g arr t', base = some ⟨g, 0, none⟩ ∧ w.heap[g]? = some (.cells arr t' (0, 0)) ∧ sCap * i.size ≤ arr.size) (hle : sLen ≤ sCap) :
  (sCap < sLen + k ∧ ∃ cap, sLen + k ≤ cap ∧ cap ≤ maxLen ∧ ∃ rest : List Value, rest.length = (cap - (sLen + k)) * z.cells.size ∧
   (Builtin.append_ #[t, tx] ty #[.slice base sLen sCap, x]).run P w = .ok (.slice (some ⟨w.heap.size, 0, none⟩) (sLen + k) cap) (w.drew.alloc (.cells (olds ++ news ++ rest).toArray el))) ∨
  (sLen + k ≤ sCap ∧ sCap = 0 ∧ (Builtin.append_ #[t, tx] ty #[.slice base sLen sCap, x]).run P w = .ok (.slice base 0 0) w) ∨
  (sLen + k ≤ sCap ∧ sCap ≠ 0 ∧ ∃ g arr t', base = some ⟨g, 0, none⟩ ∧ w.heap[g]? = some (.cells arr t' (0, 0)) ∧ sCap * i.size ≤ arr.size ∧
   (Builtin.append_ #[t, tx] ty #[.slice base sLen sCap, x]).run P w = .ok (.slice base (sLen + k) sCap) (w.setRow g (arr.toList.take (sLen * i.size) ++ news ++ arr.toList.drop (sLen * i.size + news.length)).toArray)) := by
 rcases Nat.lt_or_ge sCap (sLen + k) with hg | hg
 ·refine .inl ⟨hg, grownCap w (sLen + k) sCap el, grownCap_ge w _ _ el, grownCap_le_maxLen w _ _ el hn, (Builtin.zeroCells z.cells (grownCap w (sLen + k) sCap el - (sLen + k))).toList, by rw [Array.length_toList, size_zeroCells], ?_⟩
  have hn' : ¬ (sLen + k ≤ sCap) := by omega
  have h63' : ¬ (9223372036854775807 < ((sLen : Int) + (k : Int))) := by
   unfold maxLen at hn
   omega
  have h48' : ¬ (281474976710656 < Builtin.nextslicecap (sLen + k) sCap * i.bytes) := by
   have := growslice_fits hg hb
   omega
  have e1 := hnews w.drew (Ext.refl w).drew
  have e2 := holds w.drew (Ext.refl w).drew
  simp [Builtin.append_, run_underlying ht, run_underlying hx, sizeOf, typeInfo, zeroValue, hi, hz, hk, hn', h63', h48', Question.forced, e1, e2, newRow, grownCap]
  congr 2
  apply Array.ext'
  simp
 ·by_cases hc : sCap = 0
  ·refine .inr (.inl ⟨hg, hc, ?_⟩)
   have hs0 : sLen = 0 := by omega
   have hk0 : k = 0 := by omega
   subst hs0
   subst hk0
   subst hc
   have hn0 : news = [] := List.eq_nil_of_length_eq_zero (by simpa using hnl)
   subst hn0
   have e1 := hnews w (Ext.refl w)
   cases base with
   | none => simp [Builtin.append_, run_underlying ht, run_underlying hx, sizeOf, typeInfo, hi, hk, e1]
   | some ad => simp [Builtin.append_, run_underlying ht, run_underlying hx, sizeOf, typeInfo, hi, hk, e1, storeCells]
  ·obtain ⟨g, arr, t', rfl, hgw, hfit⟩ := hroom hc
   refine .inr (.inr ⟨hg, hc, g, arr, t', rfl, hgw, hfit, ?_⟩)
   have e1 := hnews w (Ext.refl w)
   have hle2 : (sLen + k) * i.size ≤ arr.size := Nat.le_trans (Nat.mul_le_mul_right _ hg) hfit
   rw [Nat.add_mul] at hle2
   have hst := run_storeCells_at P g (sLen * i.size) t' news 0 arr w hgw (by omega) h1
   simp only [Nat.add_zero] at hst
   simp [Builtin.append_, run_underlying ht, run_underlying hx, sizeOf, typeInfo, hi, hk, hg, e1, addr_add_plain, hst]
theorem run_app {t tx ty el : TypeId} {i : TypeInfo} {z : Value} (ht : P.underlying t = some (.slice el)) (hx : (∃ ex, P.underlying tx = some (.slice ex)) ∨ P.underlying tx = some .string) (hi : P.info? el = some i) (hz : i.zero = some z)
  {base : Option Addr} {sLen sCap : Nat} {x : Value} {k : Nat} {olds news : List Value} (hk : ∀ w', (Builtin.lenOf x).run P w' = .ok k w') (hnews : ∀ w', Ext w w' → (Builtin.firstCells i.size k x).run P w' = .ok news.toArray w') (hnl : news.length = k * i.size)
  (h1 : ∀ c ∈ news, c.oneCell' = true) (holds : ∀ w', Ext w w' → (Builtin.firstCells i.size sLen (.slice base sLen sCap)).run P w' = .ok olds.toArray w') (hol : olds.length = sLen * i.size)
  (hbase : base = none → sCap = 0) (hn : sLen + k ≤ maxLen) (hb : (sLen + k) * i.bytes ≤ 140737488355328)
  (hroom : sCap ≠ 0 → ∃ g arr t', base = some ⟨g, 0, none⟩ ∧ w.heap[g]? = some (.cells arr t' (0, 0)) ∧ sCap * i.size ≤ arr.size) (hle : sLen ≤ sCap) :
  (sCap < sLen + k ∧ ∃ cap, sLen + k ≤ cap ∧ cap ≤ maxLen ∧ ∃ rest : List Value, rest.length = (cap - (sLen + k)) * z.cells.size ∧
   (Builtin.append_ #[t, tx] ty #[.slice base sLen sCap, x]).run P w = .ok (.slice (some ⟨w.heap.size, 0, none⟩) (sLen + k) cap) (w.drew.alloc (.cells (olds ++ news ++ rest).toArray el))) ∨
  (sLen + k ≤ sCap ∧ sCap = 0 ∧ (Builtin.append_ #[t, tx] ty #[.slice base sLen sCap, x]).run P w = .ok (.slice base 0 0) w) ∨
  (sLen + k ≤ sCap ∧ sCap ≠ 0 ∧ ∃ g arr t', base = some ⟨g, 0, none⟩ ∧ w.heap[g]? = some (.cells arr t' (0, 0)) ∧ sCap * i.size ≤ arr.size ∧
   (Builtin.append_ #[t, tx] ty #[.slice base sLen sCap, x]).run P w = .ok (.slice base (sLen + k) sCap) (w.setRow g (arr.toList.take (sLen * i.size) ++ news ++ arr.toList.drop (sLen * i.size + news.length)).toArray)) := by
 rcases hx with ⟨ex, hx⟩ | hx
 ·exact run_app_sl ht hx hi hz hk hnews hnl h1 holds hol hbase hn hb hroom hle
 ·exact run_app_st ht hx hi hz hk hnews hnl h1 holds hol hbase hn hb hroom hle
end
section
variable {P : Program} {tt : TT} {B : World} {X : List Nat} {N : Nat} {M : MM} {e : Env} {h : List Blk} {a : Act} {w : World}
theorem run_first0 {P : Program} {w : World} {n : Nat} (a : Option Addr) (l c : Nat) : (Builtin.firstCells n 0 (.slice a l c)).run P w = .ok #[] w := by
 cases a with
 | none => rfl
 | some ad => simp [Builtin.firstCells, loadCells, loadCellsFrom]
theorem src_sound (hI : MInv B.heap.size w M h) {n : Nat} {x : V} {cx : Value} (hx : rep w M h x cx) {K : List D → List Nat → Bool → Prop} (H : srcV h n x K) :
  ∃ ys is dp F, ∃ news : List Value, K ys is dp ∧ (∀ w', (Builtin.lenOf cx).run P w' = .ok ys.length w') ∧ (∀ w', Ext w w' → (Builtin.firstCells n ys.length cx).run P w' = .ok news.toArray w') ∧ news.length = ys.length * n ∧ (∀ c ∈ news, c.oneCell' = true) ∧
   (if dp = true then ownDe w news.toArray n ys 0 F else F = [] ∧ extDe M.O w news.toArray n ys 0) ∧ F.Nodup ∧ (∀ z ∈ F, ∃ i ∈ is, ∃ m, M[i]? = some m ∧ z ∈ mO m) ∧ (∀ i ∈ is, ∃ k, h[i]? = some k ∧ k.live = true) := by
 unfold srcV at H
 split at H
 ·cases rep_nils.1 hx
  exact ⟨[], [], true, [], [], H, fun w' => rfl, fun w' _ => rfl, by simp, by simp, rfl, by simp, by simp, by simp⟩
 ·rename_i ys
  obtain ⟨aa, cap, m, rfl, h1, h2, h3, h4⟩ := rep_lst.1 hx
  cases ys with
  | nil =>
   obtain ⟨⟨hf, H⟩ | ⟨hf, H⟩⟩ := H
   ·exact ⟨[], [], true, [], [], H, fun w' => rfl, fun w' _ => run_first0 _ _ _, by simp, by simp, rfl, by simp, by simp, by simp⟩
   ·exact ⟨[], [], false, [], [], H, fun w' => rfl, fun w' _ => run_first0 _ _ _, by simp, by simp, by rw [if_neg (by simp)]; exact ⟨rfl, trivial⟩, by simp, by simp, by simp⟩
  | cons y ys =>
   have h4' := h4
   obtain ⟨⟨b, o, ces, rfl, g1, g2, g3, g4, g5⟩, _⟩ := h4'
   have hm : m = n := by
    rw [← g4]
    obtain ⟨⟨hf, _⟩ | ⟨hf, _⟩⟩ := H
    ·exact (hf y (by simp)).2
    ·exact hf y (by simp)
   subst hm
   obtain ⟨news, k1, k2, k3, k4⟩ := repDe_row (y :: ys) 0 h4
   have hrd : ∀ w', Ext w w' → (Builtin.firstCells m (y :: ys).length (.slice (some ⟨b, o, none⟩) (y :: ys).length cap)).run P w' = .ok news.toArray w' := fun w' hb => by
    refine run_firstCells_some w' m _ _ _ _ news k1 fun j v hj => ?_
    rw [addr_add_plain]
    have := k2 j v hj
    rw [Nat.zero_mul, Nat.add_zero] at this
    exact hb.cellSome this
   obtain ⟨⟨hf, H⟩ | ⟨hf, H⟩⟩ := H
   ·refine ⟨y :: ys, [], true, [], news, H, fun w' => rfl, hrd, k1, k3, ?_, by simp, by simp, by simp⟩
    rw [if_pos rfl]
    exact ext_own _ 0 (fun z hz => (hf z hz).1) k4
   ·refine ⟨y :: ys, [], false, [], news, H, fun w' => rfl, hrd, k1, k3, ?_, by simp, by simp, by simp⟩
    rw [if_neg (by simp)]
    exact ⟨rfl, k4⟩
 ·rename_i str
  cases hq : Nat.beq n 1 with
  | false => rw [hq] at H; exact H.elim
  | true =>
   rw [hq] at H
   simp only [cond_true] at H
   have := Nat.eq_of_beq_eq_true hq
   subst this
   obtain ⟨rfl, hs⟩ := rep_str.1 hx
   have hsl : (str.data.toList.map bD).length = str.size := by rw [List.length_map, Array.length_toList]; rfl
   have hown : ∀ l : List UInt8, ownDs w (l.map bD) [] (l.map fun c => Value.int .u8 (c.toNat : Int)) := by
    intro l
    induction l with
    | nil => exact ⟨rfl, rfl⟩
    | cons c l ih => exact ⟨[], [], [_], _, rfl, rfl, ⟨rfl, rfl, by have := c.toNat_lt; simp [inR, IntKind.min, IntKind.max, IntKind.bits, IntKind.signed]; omega⟩, ih⟩
   refine ⟨_, [], true, [], Lib.strCells str, H, fun w' => by rw [hsl]; rfl, fun w' _ => by rw [hsl]; exact Lib.run_firstCells_string w' 1 str, by rw [Lib.strCells_length, hsl, Nat.mul_one], fun c hc => ?_, ?_, by simp, by simp, by simp⟩
   ·obtain ⟨b, _, rfl⟩ := List.mem_map.1 hc
    rfl
   ·rw [if_pos rfl]
    have := (ownDs_De (n := 1) (str.data.toList.map bD) 0 [] [] (Lib.strCells str) (by simp) (by intro y hy; obtain ⟨c, _, rfl⟩ := List.mem_map.1 hy; rfl) (hown _)).1
    simpa using this
 ·rename_i c off len
  split at H
  ·rename_i n' ys dp hc
   cases hq : Nat.beq n' n with
   | false => rw [hq] at H; exact H.elim
   | true =>
    rw [hq] at H
    simp only [cond_true] at H
    have := Nat.eq_of_beq_eq_true hq
    subst this
    obtain ⟨⟨rfl, rfl, H⟩⟩ := H
    obtain ⟨aa, cap, rfl, h1, h2, h3, h4⟩ := rep_own.1 hx
    have hlive : ∀ i ∈ [c], ∃ k, h[i]? = some k ∧ k.live = true := by
     intro i hi
     have : i = c := by simpa using hi
     subst this
     exact ⟨_, hc, rfl⟩
    rcases h4 with h4 | ⟨g, F, arr, t', m1, rfl, m3, m4⟩
    ·have : ys = [] := List.eq_nil_of_length_eq_zero (by omega)
     subst this
     exact ⟨[], [c], dp, [], [], H, fun w' => rfl, fun w' _ => run_first0 _ _ _, by simp, by simp, by cases dp <;> simp [ownDe, extDe], by simp, by simp, hlive⟩
    ·have hn : nOf h c = n' := by simp [nOf, hc]
     rw [hn] at m4
     have hbr := hI.blk c _ _ hc m1
     obtain ⟨arr', t'', q1, q2, q3⟩ := hbr
     rw [m3] at q1
     cases q1
     have hat : ∀ j, j < ys.length * n' → (arr.toList.take (ys.length * n'))[j]? = arr[j]? := fun j hj => by
      rw [List.getElem?_take, if_pos hj, Array.getElem?_toList]
     have hnl : (arr.toList.take (ys.length * n')).length = ys.length * n' := by simp; omega
     have hel : ∀ k, k < ys.length → ∀ j, j < n' → (arr.toList.take (ys.length * n')).toArray[(0 + k) * n' + j]? = arr[(0 + k) * n' + j]? := fun k hk j hj => by
      rw [List.getElem?_toArray, hat]
      have := Nat.mul_le_mul_right n' (Nat.succ_le_of_lt hk)
      rw [Nat.succ_mul] at this
      rw [Nat.zero_add]; omega
     have hone : ∀ (xs : List D) (i : Nat), extDe [] w arr n' xs i → ∀ j, i * n' ≤ j → j < (i + xs.length) * n' → ∀ v, arr[j]? = some v → v.oneCell' = true := by
      intro xs
      induction xs with
      | nil => intro i _ j h1 h2; simp at h2; omega
      | cons x xs ih =>
       intro i ⟨⟨ces, e1, e2, e3⟩, e4⟩ j j1 j2 v hv
       by_cases hlt : j < (i + 1) * n'
       ·have hl := repD_len x ces e3
        have hjl : j - i * n' < ces.length := by rw [hl, e1]; rw [Nat.succ_mul] at hlt; omega
        have := e2 (j - i * n') ces[j - i * n'] (List.getElem?_eq_getElem hjl)
        rw [show i * n' + (j - i * n') = j by omega, hv] at this
        cases this
        exact repD_one x ces e3 _ (List.getElem_mem hjl)
       ·refine ih (i + 1) e4 j (by omega) ?_ v hv
        rw [show i + 1 + xs.length = i + (x :: xs).length by simp; omega]; exact j2
     have hext0 : extDe [] w arr n' ys 0 := by
      cases dp with
      | true => rw [if_pos rfl] at q3; exact ownDe_ext m3 q3
      | false =>
       rw [if_neg (by simp)] at q3
       exact extDe_mv (w' := w) (fun b _ _ => ⟨by simp, rfl⟩) ys 0 q3.2
     refine ⟨ys, [c], dp, F, arr.toList.take (ys.length * n'), H, fun w' => rfl, fun w' hb => ?_, hnl, fun v hv => ?_, ?_, ?_, fun z hz => ⟨c, by simp, _, m1, by simp [mO, hz]⟩, hlive⟩
     ·refine run_firstCells_some w' n' _ _ _ _ _ hnl fun j v hj => ?_
      rw [addr_add_plain, Nat.zero_mul, Nat.zero_add]
      have hjl : j < ys.length * n' := by rw [← hnl]; exact (List.getElem?_eq_some_iff.1 hj).1
      rw [hat j hjl] at hj
      exact hb.cellSome (by simp [World.cell?, m3, hj])
     ·obtain ⟨j, hj⟩ := List.getElem?_of_mem hv
      have hjl : j < ys.length * n' := by rw [← hnl]; exact (List.getElem?_eq_some_iff.1 hj).1
      rw [hat j hjl] at hj
      exact hone ys 0 hext0 j (by omega) (by rw [Nat.zero_add]; exact hjl) v hj
     ·cases dp with
      | true => rw [if_pos rfl] at q3 ⊢; exact ownDe_at ys 0 0 F hel q3
      | false => rw [if_neg (by simp)] at q3 ⊢; exact ⟨q3.1, extDe_at ys 0 0 hel q3.2⟩
     ·have := mO_nodup' hI m1
      exact (List.nodup_cons.1 this).2
  ·exact H.elim
 ·exact H.elim
theorem own_row {arr arr' : Array Value} {n : Nat} {xs ys : List D} {len : Nat} {F Fy : List Nat} {news : Array Value} (hlen : len ≤ xs.length) (h1 : ownDe w arr n xs 0 F) (h2 : ownDe w news n ys 0 Fy)
  (g1 : ∀ j, j < len * n → arr'[j]? = arr[j]?) (g2 : ∀ j, j < ys.length * n → arr'[len * n + j]? = news[j]?) : ∃ F1 F2, F = F1 ++ F2 ∧ ownDe w arr' n (xs.take len ++ ys) 0 (F1 ++ Fy) := by
 rw [← List.take_append_drop len xs] at h1
 obtain ⟨F1, F2, rfl, k1, k2⟩ := (ownDe_app _ _ _ _).1 h1
 have hl : (xs.take len).length = len := by simp; omega
 refine ⟨F1, F2, rfl, (ownDe_app _ _ _ _).2 ⟨F1, Fy, rfl, ownDe_at _ 0 0 F1 (fun k hk j hj => ?_) k1, ownDe_at ys 0 _ Fy (fun k hk j hj => ?_) h2⟩⟩
 ·rw [hl] at hk
  have := Nat.mul_le_mul_right n (Nat.succ_le_of_lt hk)
  rw [Nat.succ_mul] at this
  rw [Nat.zero_add]
  exact g1 _ (by omega)
 ·have := Nat.mul_le_mul_right n (Nat.succ_le_of_lt hk)
  rw [Nat.succ_mul] at this
  rw [hl, Nat.zero_add, Nat.zero_add, Nat.add_mul, Nat.add_assoc]
  exact g2 _ (by omega)
theorem ext_row2 {O : List Nat} {arr arr' : Array Value} {n : Nat} {xs ys : List D} {len : Nat} {news : Array Value} (hlen : len ≤ xs.length) (h1 : extDe O w arr n xs 0) (h2 : extDe O w news n ys 0)
  (g1 : ∀ j, j < len * n → arr'[j]? = arr[j]?) (g2 : ∀ j, j < ys.length * n → arr'[len * n + j]? = news[j]?) : extDe O w arr' n (xs.take len ++ ys) 0 := by
 rw [← List.take_append_drop len xs] at h1
 obtain ⟨k1, k2⟩ := (extDe_app _ _ _).1 h1
 have hl : (xs.take len).length = len := by simp; omega
 refine (extDe_app _ _ _).2 ⟨extDe_at _ 0 0 (fun k hk j hj => ?_) k1, extDe_at ys 0 _ (fun k hk j hj => ?_) h2⟩
 ·rw [hl] at hk
  have := Nat.mul_le_mul_right n (Nat.succ_le_of_lt hk)
  rw [Nat.succ_mul] at this
  rw [Nat.zero_add]
  exact g1 _ (by omega)
 ·have := Nat.mul_le_mul_right n (Nat.succ_le_of_lt hk)
  rw [Nat.succ_mul] at this
  rw [hl, Nat.zero_add, Nat.zero_add, Nat.add_mul, Nat.add_assoc]
  exact g2 _ (by omega)
theorem app_core (R : Rep B X N M e h a w) {b : Nat} (hb0 : b ≠ 0) {n : Nat} {xs ys : List D} {dp : Bool} {k0 : Blk} (hk0 : h[b]? = some k0) (hkb : k0 = .arr n xs dp ∨ (k0 = .gone ∧ M[b]? = some none ∧ xs = [])) (hns : 1 ≤ n)
  {is : List Nat} (hbi : b ∉ is) {len : Nat} (hlen : len ≤ xs.length) {base : Option Addr} {sCap : Nat}
  (ho : ownR w M (if k0.live then h else h.set b (.arr n xs dp)) b 0 len (.slice base len sCap)) {Fy : List Nat} {news : List Value} (hnl : news.length = ys.length * n)
  (hel : if dp = true then ownDe w news.toArray n ys 0 Fy else Fy = [] ∧ extDe M.O w news.toArray n ys 0) (hFy : Fy.Nodup) (hFm : ∀ z ∈ Fy, ∃ i ∈ is, ∃ m, M[i]? = some m ∧ z ∈ mO m) (hisl : ∀ i ∈ is, ∃ k, h[i]? = some k ∧ k.live = true)
  {el : TypeId} {zs : Nat} {cv : Value} {w' : World} (hmax : len + ys.length ≤ maxLen) (hzs : zs = n)
  (hrun : (∃ cap, len + ys.length ≤ cap ∧ cap ≤ maxLen ∧ sCap < len + ys.length ∧ ∃ rest olds : List Value, rest.length = (cap - (len + ys.length)) * zs ∧ olds.length = len * n ∧ (∀ j, j < len * n → ∀ g F arr t, M[b]? = some (some (g, F)) → w.heap[g]? = some (.cells arr t (0, 0)) → olds[j]? = arr[j]?) ∧
    cv = .slice (some ⟨w.heap.size, 0, none⟩) (len + ys.length) cap ∧ w' = w.drew.alloc (.cells (olds ++ news ++ rest).toArray el)) ∨
   (sCap = 0 ∧ len + ys.length = 0 ∧ cv = .slice base 0 0 ∧ w' = w) ∨
   (len + ys.length ≤ sCap ∧ sCap ≠ 0 ∧ ∃ g arr t', base = some ⟨g, 0, none⟩ ∧ w.heap[g]? = some (.cells arr t' (0, 0)) ∧ sCap * n ≤ arr.size ∧ cv = .slice base (len + ys.length) sCap ∧
    w' = w.setRow g (arr.toList.take (len * n) ++ news ++ arr.toList.drop (len * n + news.length)).toArray)) :
  ∃ M', Rep B X N M' (dropE (b :: is) e) ((goneL is (dropK (b :: is) h)).set b (.arr n (xs.take len ++ ys) dp)) a w' ∧ rep w' M' ((goneL is (dropK (b :: is) h)).set b (.arr n (xs.take len ++ ys) dp)) (.own b 0 (len + ys.length)) cv := by
 have hbl : b < h.length := (List.getElem?_eq_some_iff.1 hk0).1
 obtain ⟨m0, hM⟩ := at_lt (xs := M) (k := b) (by rw [R.inv.len]; exact hbl)
 have hl0 : k0.live = true ∨ m0 = none := by
  rcases hkb with rfl | ⟨rfl, q, _⟩
  ·exact .inl rfl
  ·rw [hM] at q; cases q; exact .inr rfl
 have hisn : ∀ i ∈ is, i ≠ 0 := fun i hi e0 => by
  obtain ⟨k, hk, hl⟩ := hisl i hi
  subst e0
  rw [R.fh] at hk
  cases hk
  cases hl
 have hislv : ∀ i ∈ is, ∀ k, h[i]? = some k → k.live = true := fun i hi k hk => by
  obtain ⟨k1, hk1, hl⟩ := hisl i hi
  rw [hk1] at hk
  cases hk
  exact hl
 have hbr := R.inv.blk b k0 m0 hk0 hM
 have hnof : nOf ((goneL is (dropK (b :: is) h)).set b (.arr n (xs.take len ++ ys) dp)) b = n := by
  unfold nOf
  rw [List.getElem?_set_self (by rw [goneL_len, dropK_len]; exact hbl)]
 have hnof0 : nOf (if k0.live then h else h.set b (.arr n xs dp)) b = n := by
  rcases hkb with rfl | ⟨rfl, q, _⟩
  ·rw [if_pos (show (Blk.arr n xs dp).live = true from rfl)]; simp [nOf, hk0]
  ·rw [if_neg (by simp [Blk.live])]
   unfold nOf
   rw [List.getElem?_set_self hbl]
 have htl : (xs.take len ++ ys).length = len + ys.length := by simp; omega
 -- what the old row held
 have hold : ∀ g F, m0 = some (g, F) → ∃ arr t, w.heap[g]? = some (.cells arr t (0, 0)) ∧ xs.length * n ≤ arr.size ∧ (if dp = true then ownDe w arr n xs 0 F else F = [] ∧ extDe M.O w arr n xs 0) := fun g F hm => by
  subst hm
  rcases hkb with rfl | ⟨rfl, q, _⟩
  ·exact hbr
  ·rw [hM] at q; cases q
 have hnone : m0 = none → xs = [] := fun hm => by
  subst hm
  rcases hkb with rfl | ⟨rfl, q, hx⟩
  ·exact hbr
  ·exact hx
 have finish : ∀ (m' : Option (Nat × List Nat)) (hx : Ext B w') (hnd : (mO m').Nodup) (hL : ∀ x ∈ mO m', x ∈ mO m0 ∨ (∃ i ∈ is, ∃ m, M[i]? = some m ∧ x ∈ mO m) ∨ w.heap.size ≤ x) (hLhi : ∀ x ∈ mO m', x < w'.heap.size) (hws : w.heap.size ≤ w'.heap.size)
   (hch : ∀ x, x < w.heap.size → x ∉ mO m0 → w'.heap[x]? = w.heap[x]?)
   (hB : ∀ (M' : MM) (h' : List Blk), (∀ x, x ∉ M.O → x < w.heap.size → x ∉ MM.O M' ∧ w'.heap[x]? = w.heap[x]?) → BRep w' M' h' (.arr n (xs.take len ++ ys) dp) m')
   (hv : ∀ (M' : MM) (h' : List Blk), M'[b]? = some m' → nOf h' b = n → ownR w' M' h' b 0 (len + ys.length) cv),
   ∃ M', Rep B X N M' (dropE (b :: is) e) ((goneL is (dropK (b :: is) h)).set b (.arr n (xs.take len ++ ys) dp)) a w' ∧ rep w' M' ((goneL is (dropK (b :: is) h)).set b (.arr n (xs.take len ++ ys) dp)) (.own b 0 (len + ys.length)) cv := by
  intro m' hx hnd hL hLhi hws hch hB hv
  obtain ⟨M', R', hM', _⟩ := R.reset hx hM hb0 hk0 hl0 is (b :: is) (fun hi => hisn 0 hi rfl) hbi (fun i hi => by simp [hi]) hislv hnd hL hLhi hws hch (k' := .arr n (xs.take len ++ ys) dp) rfl (fun q => absurd (by simp) q) hB
  exact ⟨M', R', rep_own.2 (hv _ _ hM' hnof)⟩
 obtain ⟨aa, cap0, ecv, o1, o2, o3, o4⟩ := ho
 cases ecv
 rcases hrun with ⟨cap, r1, r2, r3, rest, olds, r4, r5, r6, rfl, rfl⟩ | ⟨rfl, r1, rfl, rfl⟩ | ⟨r1, r2, g, arr, t', rfl, r4, r5, rfl, rfl⟩
 ·-- a new row
  have hx : Ext w (w.drew.alloc (.cells (olds ++ news ++ rest).toArray el)) := ((Ext.refl w).drew).alloc _
  have hnew : (w.drew.alloc (.cells (olds ++ news ++ rest).toArray el)).heap[w.heap.size]? = some (.cells (olds ++ news ++ rest).toArray el (0, 0)) := heap_new w.drew _
  have hsz : (olds ++ news ++ rest).toArray.size = cap * n := by
   simp only [List.size_toArray, List.length_append, r5, hnl, r4, hzs]
   rw [← Nat.add_mul, ← Nat.add_mul]
   congr 1
   omega
  have g1 : ∀ j, j < len * n → (olds ++ news ++ rest).toArray[j]? = olds[j]? := fun j hj => by
   rw [List.getElem?_toArray, List.append_assoc, List.getElem?_append_left (by omega)]
  have g2 : ∀ j, j < ys.length * n → (olds ++ news ++ rest).toArray[len * n + j]? = news.toArray[j]? := fun j hj => by
   rw [List.getElem?_toArray, List.append_assoc, List.getElem?_append_right (by omega), List.getElem?_append_left (by omega), List.getElem?_toArray]
   congr 1
   omega
  -- the elements
  have hels : ∃ F1, (∀ x ∈ F1, x ∈ mO m0) ∧ F1.Nodup ∧ (∀ x ∈ F1, ∀ g F, m0 = some (g, F) → x ≠ g) ∧ (if dp = true then ownDe w (olds ++ news ++ rest).toArray n (xs.take len ++ ys) 0 (F1 ++ Fy) else (F1 ++ Fy) = [] ∧ extDe M.O w (olds ++ news ++ rest).toArray n (xs.take len ++ ys) 0) := by
   cases hm0 : m0 with
   | none =>
    have hxs := hnone hm0
    subst hxs
    have hlen0 : len = 0 := by simpa using hlen
    subst hlen0
    refine ⟨[], by simp, by simp, by simp, ?_⟩
    simp only [List.take_nil, List.nil_append]
    have g2' : ∀ k, k < ys.length → ∀ j, j < n → (olds ++ news ++ rest).toArray[(0 + k) * n + j]? = news.toArray[(0 + k) * n + j]? := fun k hk j hj => by
     have := Nat.mul_le_mul_right n (Nat.succ_le_of_lt hk)
     rw [Nat.succ_mul] at this
     have := g2 ((0 + k) * n + j) (by rw [Nat.zero_add]; omega)
     rw [Nat.zero_mul, Nat.zero_add] at this
     exact this
    cases dp with
    | true => rw [if_pos rfl] at hel ⊢; exact ownDe_at ys 0 0 Fy g2' hel
    | false => rw [if_neg (by simp)] at hel ⊢; exact ⟨hel.1, extDe_at ys 0 0 g2' hel.2⟩
   | some p =>
    obtain ⟨g, F⟩ := p
    obtain ⟨arr, t, q1, q2, q3⟩ := hold g F hm0
    have g1' : ∀ j, j < len * n → (olds ++ news ++ rest).toArray[j]? = arr[j]? := fun j hj => by
     rw [g1 j hj]
     exact r6 j hj g F arr t (by rw [hM, hm0]) q1
    have hnd := mO_nodup' R.inv (by rw [hM, hm0] : M[b]? = some (some (g, F)))
    cases dp with
    | true =>
     rw [if_pos rfl] at hel q3
     obtain ⟨F1, F2, rfl, k1⟩ := own_row hlen q3 hel g1' g2
     refine ⟨F1, fun x hx => by simp [mO, hx], (List.nodup_append.1 (List.nodup_cons.1 hnd).2).1, fun x hx g0 F0 e0 => ?_, by rw [if_pos rfl]; exact k1⟩
     cases e0
     rintro rfl
     exact (List.nodup_cons.1 hnd).1 (by simp [hx])
    | false =>
     rw [if_neg (by simp)] at hel q3
     refine ⟨[], by simp, by simp, by simp, ?_⟩
     rw [if_neg (by simp)]
     exact ⟨by simp [hel.1], ext_row2 hlen q3.2 hel.2 g1' g2⟩
  obtain ⟨F1, f1, f2, f3, f4⟩ := hels
  have hFn : (F1 ++ Fy).Nodup := List.nodup_append.2 ⟨f2, hFy, fun x hx y hy e0 => by
   subst e0
   obtain ⟨i, hi, m, hm, hxm⟩ := hFm x hy
   have := O_block_inj R.inv hM hm (f1 x hx) hxm
   subst this
   exact hbi hi⟩
  have hFb : ∀ x ∈ F1 ++ Fy, x ∈ M.O := fun x hx => by
   rcases List.mem_append.1 hx with hx | hx
   ·exact mem_O hM (f1 x hx)
   ·obtain ⟨i, hi, m, hm, hxm⟩ := hFm x hx
    exact mem_O hm hxm
  refine finish (some (w.heap.size, F1 ++ Fy)) (R.ext.trans hx) ?_ ?_ ?_ (by simp) (fun x hlt _ => hx.below.block x hlt) ?_ ?_
  ·refine List.nodup_cons.2 ⟨fun hm => ?_, hFn⟩
   have := R.inv.hi _ (hFb _ hm)
   omega
  ·intro x hxm
   rcases List.mem_cons.1 hxm with rfl | hxm
   ·exact .inr (.inr (Nat.le_refl _))
   ·rcases List.mem_append.1 hxm with hxm | hxm
    ·exact .inl (f1 x hxm)
    ·exact .inr (.inl (hFm x hxm))
  ·intro x hxm
   rcases List.mem_cons.1 hxm with rfl | hxm
   ·simp
   ·have := R.inv.hi x (hFb x hxm)
    simp; omega
  ·intro M' h' hext
   refine ⟨_, _, hnew, by rw [htl, hsz]; exact Nat.mul_le_mul_right _ r1, ?_⟩
   cases dp with
   | true =>
    rw [if_pos rfl] at f4 ⊢
    exact ownDe_mv _ _ _ _ _ (fun x hxm => hx.below.block x (R.inv.hi x (hFb x hxm))) f4
   | false =>
    rw [if_neg (by simp)] at f4 ⊢
    exact ⟨f4.1, extDe_mv hext _ _ f4.2⟩
  ·intro M' h' hM' hn'
   exact ⟨_, cap, rfl, r1, r2, (fun q => by cases q), .inr ⟨w.heap.size, _, _, _, hM', by rw [hn', Nat.zero_mul], hnew, by rw [hn', hsz, Nat.zero_add]; exact Nat.le_refl _⟩⟩
 ·-- nothing at all
  have hy0 : ys = [] := List.eq_nil_of_length_eq_zero (by omega)
  subst hy0
  have hl0' : len = 0 := by omega
  subst hl0'
  refine finish none R.ext (by simp [mO]) (by simp [mO]) (by simp [mO]) (Nat.le_refl _) (fun _ _ _ => rfl) (fun M' h' _ => by simp [BRep]) (fun M' h' _ _ => ⟨_, 0, rfl, Nat.le_refl _, Nat.zero_le _, fun _ => rfl, .inl rfl⟩)
 ·-- in place
  rcases o4 with o4 | ⟨g', F, arr', t, m1, m2, m3, m4⟩
  ·exact absurd o4 r2
  have hgg : g' = g := by
   have := Option.some.inj m2
   exact (congrArg Addr.block this).symm
  subst hgg
  rw [r4] at m3
  cases m3
  rw [hM] at m1
  have hm0 : m0 = some (g', F) := Option.some.inj m1
  obtain ⟨arr1, t1, q1, q2, q3⟩ := hold g' F hm0
  rw [r4] at q1
  cases q1
  have hnd := mO_nodup' R.inv (by rw [hM, hm0] : M[b]? = some (some (g', F)))
  have hle2 : (len + ys.length) * n ≤ arr.size := Nat.le_trans (Nat.mul_le_mul_right _ r1) r5
  rw [Nat.add_mul] at hle2
  have htk : (arr.toList.take (len * n)).length = len * n := by simp; omega
  have hsz : (arr.toList.take (len * n) ++ news ++ arr.toList.drop (len * n + news.length)).toArray.size = arr.size := by simp; omega
  have g1 : ∀ j, j < len * n → (arr.toList.take (len * n) ++ news ++ arr.toList.drop (len * n + news.length)).toArray[j]? = arr[j]? := fun j hj => by
   rw [List.getElem?_toArray, List.append_assoc, List.getElem?_append_left (by omega), List.getElem?_take, if_pos hj, Array.getElem?_toList]
  have g2 : ∀ j, j < ys.length * n → (arr.toList.take (len * n) ++ news ++ arr.toList.drop (len * n + news.length)).toArray[len * n + j]? = news.toArray[j]? := fun j hj => by
   rw [List.getElem?_toArray, List.append_assoc, List.getElem?_append_right (by omega), List.getElem?_append_left (by omega), List.getElem?_toArray]
   congr 1
   omega
  have hlo : B.heap.size ≤ g' := by
   rcases hkb with rfl | ⟨rfl, q, _⟩
   ·exact R.inv.lo b _ m0 hk0 hM rfl g' (by rw [hm0]; simp [mO])
   ·rw [hM, hm0] at q; cases q
  have hels : ∃ F1, (∀ x ∈ F1, x ∈ F) ∧ F1.Nodup ∧ (if dp = true then ownDe w (arr.toList.take (len * n) ++ news ++ arr.toList.drop (len * n + news.length)).toArray n (xs.take len ++ ys) 0 (F1 ++ Fy) else (F1 ++ Fy) = [] ∧ extDe M.O w (arr.toList.take (len * n) ++ news ++ arr.toList.drop (len * n + news.length)).toArray n (xs.take len ++ ys) 0) := by
   cases dp with
   | true =>
    rw [if_pos rfl] at hel q3
    obtain ⟨F1, F2, rfl, k1⟩ := own_row hlen q3 hel g1 g2
    exact ⟨F1, fun x hx => by simp [hx], (List.nodup_append.1 (List.nodup_cons.1 hnd).2).1, by rw [if_pos rfl]; exact k1⟩
   | false =>
    rw [if_neg (by simp)] at hel q3
    exact ⟨[], by simp, by simp, by rw [if_neg (by simp)]; exact ⟨by simp [hel.1], ext_row2 hlen q3.2 hel.2 g1 g2⟩⟩
  obtain ⟨F1, f1, f2, f4⟩ := hels
  have hgn : g' ∉ F := (List.nodup_cons.1 hnd).1
  have hFyg : ∀ x ∈ Fy, x ≠ g' ∧ x ∉ F := fun x hx => by
   obtain ⟨i, hi, m, hm, hxm⟩ := hFm x hx
   refine ⟨fun e0 => ?_, fun hF => ?_⟩
   ·subst e0
    have := O_block_inj R.inv hM hm (by rw [hm0]; simp [mO]) hxm
    subst this
    exact hbi hi
   ·have := O_block_inj R.inv hM hm (by rw [hm0]; simp [mO, hF]) hxm
    subst this
    exact hbi hi
  have hFb : ∀ x ∈ F1 ++ Fy, x ∈ M.O ∧ x ≠ g' := fun x hx => by
   rcases List.mem_append.1 hx with hx | hx
   ·exact ⟨mem_O hM (by rw [hm0]; simp [mO, f1 x hx]), fun e0 => hgn (by rw [← e0]; exact f1 x hx)⟩
   ·obtain ⟨i, hi, m, hm, hxm⟩ := hFm x hx
    exact ⟨mem_O hm hxm, (hFyg x hx).1⟩
  refine finish (some (g', F1 ++ Fy)) (ext_setRow R.ext hlo _) ?_ ?_ ?_ (by rw [setRow_size]; exact Nat.le_refl _) (fun x hlt hx => setRow_other (fun e0 => hx (by rw [hm0, e0]; simp [mO])) _) ?_ ?_
  ·refine List.nodup_cons.2 ⟨fun hm => (hFb _ hm).2 rfl, List.nodup_append.2 ⟨f2, hFy, fun x hx y hy e0 => ?_⟩⟩
   subst e0
   exact (hFyg x hy).2 (f1 x hx)
  ·intro x hxm
   rcases List.mem_cons.1 hxm with rfl | hxm
   ·exact .inl (by rw [hm0]; simp [mO])
   ·rcases List.mem_append.1 hxm with hxm | hxm
    ·exact .inl (by rw [hm0]; simp [mO, f1 x hxm])
    ·exact .inr (.inl (hFm x hxm))
  ·intro x hxm
   rw [setRow_size]
   rcases List.mem_cons.1 hxm with rfl | hxm
   ·exact lt_of_heap r4
   ·exact R.inv.hi x (hFb x hxm).1
  ·intro M' h' hext
   refine ⟨_, _, setRow_at r4 _, by rw [htl, hsz, Nat.add_mul]; exact hle2, ?_⟩
   cases dp with
   | true =>
    rw [if_pos rfl] at f4 ⊢
    exact ownDe_mv _ _ _ _ _ (fun x hxm => setRow_other (hFb x hxm).2 _) f4
   | false =>
    rw [if_neg (by simp)] at f4 ⊢
    exact ⟨f4.1, extDe_mv hext _ _ f4.2⟩
  ·intro M' h' hM' hn'
   exact ⟨_, sCap, rfl, r1, o2, (fun q => by cases q), .inr ⟨g', _, _, _, hM', by rw [hn', Nat.zero_mul], setRow_at r4 _, by rw [hn', hsz, Nat.zero_add]; exact r5⟩⟩
theorem srcV_app {h : List Blk} {m : Blk} {n : Nat} {x : V} {K : List D → List Nat → Bool → Prop} (H : srcV h n x K) : srcV (h ++ [m]) n x K := by
 unfold srcV at H ⊢
 split at H
 ·exact H
 ·exact H
 ·exact H
 ·rename_i c off len
  split at H
  ·rename_i hc
   rw [get_app_left hc]
   exact H
  ·exact H.elim
 ·exact H.elim
theorem app_sound (hT : TOk P tt) (R : Rep B X N M e h a w) {t tx ty : Nat} {s x : V} {cs cx : Value} (hs : rep w M h s cs) (hx : rep w M h x cx) {K : V → Env → List Blk → Prop} (H : appV tt t tx s x e h K) :
  ∃ v cv e' h' M' w', K v e' h' ∧ (Builtin.append_ #[t, tx] ty #[cs, cx]).run P w = .ok cv w' ∧ Rep B X N M' e' h' a w' ∧ rep w' M' h' v cv := by
 unfold appV at H
 split at H
 ·rename_i el sz by' zr eq0 hti
  obtain ⟨fi, d, z, h1, h2, h3, h4, h5, h6, h7, h8, h9⟩ := (hT t _ hti).ex
  cases d <;> first
   | exact (h6 : False).elim
   | skip
  cases (h6 : _ = el)
  cases hsr : isSrc (tt tx) x with
  | false => rw [hsr] at H; exact H.elim
  | true =>
  rw [hsr] at H
  simp only [cond_true] at H
  have i5 := isSrc_spec hT hsr
  split at H
  ·rename_i ie hie
   obtain ⟨fe, de, ze, e1, e2, e3, e4, e5, e6, e7, e8, e9⟩ := (hT _ _ hie).ex
   cases hq : Nat.ble 1 ie.size with
   | false => rw [hq] at H; exact H.elim
   | true =>
    rw [hq] at H
    simp only [cond_true] at H
    have hsz1 := Nat.le_of_ble_eq_true hq
    split at H
    ·-- a slice that is nil
     cases rep_nils.1 hs
     have R1 := R.room
     have hx1 : rep w (M ++ [none]) (h ++ [.gone]) x cx := rep_mv (push_mv R.inv.len (Ext.refl w) R.inv.hi (by simp [MM.O, mO])) _ _ (V.inS_all _) hx
     obtain ⟨ys, is, dp, F, news, ⟨⟨k1, k2, kK⟩⟩, l1, l2, l3, l4, l5, l6, l7, l8⟩ := src_sound (P := P) (B := B) R1.inv hx1 (srcV_app H)
     have hra := run_app (P := P) (w := w) (t := t) (tx := tx) (ty := ty) (base := none) (sLen := 0) (sCap := 0) (olds := []) h5 i5 e1 e4 l1 (by rw [e2]; exact l2) (by rw [e2]; exact l3) l4 (fun w' _ => run_first0 _ _ _) (by simp) (fun _ => rfl) (by rw [Nat.zero_add]; exact k1) (by rw [Nat.zero_add, e3]; exact k2) (fun q => absurd rfl q) (Nat.le_refl _)
     have hb0 : h.length ≠ 0 := by
      have := (List.getElem?_eq_some_iff.1 R.fh).1
      omega
     have hMl : (M ++ [none])[h.length]? = some none := by
      rw [← R.inv.len, List.getElem?_append_right (Nat.le_refl _)]; simp
     have hhl : (h ++ [Blk.gone])[h.length]? = some .gone := by rw [List.getElem?_append_right (Nat.le_refl _)]; simp
     have hbi : h.length ∉ is := fun hi => by
      obtain ⟨k, hk, hl⟩ := l8 _ hi
      rw [hhl] at hk
      cases hk
      cases hl
     have core := fun cv w' => app_core R1 (b := h.length) hb0 (n := ie.size) (xs := []) (ys := ys) (dp := dp) (k0 := .gone) hhl (.inr ⟨rfl, hMl, rfl⟩) hsz1 (is := is) hbi (len := 0) (Nat.le_refl _) (base := none) (sCap := 0)
      ⟨none, 0, rfl, Nat.le_refl _, Nat.zero_le _, fun _ => rfl, .inl rfl⟩ (Fy := F) (news := news) l3 l5 l6 l7 l8 (el := el) (zs := ze.cells.size) (cv := cv) (w' := w') (by rw [Nat.zero_add]; exact k1) e8
     rcases hra with ⟨q1, cap, q2, q3, rest, q4, q5⟩ | ⟨q1, q2, q3⟩ | ⟨q1, q2, _⟩
     ·obtain ⟨M', R', hv⟩ := core _ _ (.inl ⟨cap, by omega, q3, by omega, rest, [], by rw [q4], by simp, by simp, rfl, rfl⟩)
      simp only [List.take_nil, List.nil_append, Nat.zero_add] at R' hv
      exact ⟨_, _, _, _, M', _, kK, by rw [q5, Nat.zero_add, List.nil_append], R', hv⟩
     ·obtain ⟨M', R', hv⟩ := core _ _ (.inr (.inl ⟨rfl, by omega, rfl, rfl⟩))
      simp only [List.take_nil, List.nil_append, Nat.zero_add] at R' hv
      exact ⟨_, _, _, _, M', _, kK, q3, R', hv⟩
     ·exact absurd rfl q2
    ·-- a slice of our own
     rename_i b off len
     split at H
     ·rename_i n xs dp hb
      cases hqn : Nat.beq n ie.size with
      | false => rw [hqn] at H; exact H.elim
      | true =>
       rw [hqn] at H
       simp only [cond_true] at H
       have := Nat.eq_of_beq_eq_true hqn
       subst this
       obtain ⟨⟨rfl, hlen, H⟩⟩ := H
       obtain ⟨ys, is, dp', F, news, kK, l1, l2, l3, l4, l5, l6, l7, l8⟩ := src_sound (P := P) (B := B) R.inv hx H
       cases hqd : ((dp == dp') && !is.any (Nat.beq b)) with
       | false => rw [hqd] at kK; exact kK.elim
       | true =>
        rw [hqd] at kK
        simp only [cond_true] at kK
        obtain ⟨⟨k1, k2, kK⟩⟩ := kK
        simp only [Bool.and_eq_true, beq_iff_eq, Bool.not_eq_true', List.any_eq_false] at hqd
        obtain ⟨rfl, hbi'⟩ := hqd
        have hbi : b ∉ is := fun hi => hbi' b hi (Nat.beq_refl b)
        have ho := rep_own.1 hs
        have ho' := ho
        obtain ⟨base, sCap, rfl, o1, o2, o3, o4⟩ := ho'
        have hn : nOf h b = ie.size := by simp [nOf, hb]
        have hb0 : b ≠ 0 := fun e0 => by
         subst e0
         rw [R.fh] at hb
         cases hb
        -- what is there
        have ⟨olds, s1, s2, s3⟩ : ∃ olds : List Value, (∀ w', Ext w w' → (Builtin.firstCells ie.size len (.slice base len sCap)).run P w' = .ok olds.toArray w') ∧ olds.length = len * ie.size ∧
          (∀ j, j < len * ie.size → ∀ g F arr t, M[b]? = some (some (g, F)) → w.heap[g]? = some (.cells arr t (0, 0)) → olds[j]? = arr[j]?) := by
         rcases o4 with o4 | ⟨g, F', arr, t', m1, rfl, m3, m4⟩
         ·have : len = 0 := by omega
          subst this
          exact ⟨[], fun w' _ => run_first0 _ _ _, by simp, fun j hj => by simp at hj⟩
         ·rw [hn] at m4
          have hle : len * ie.size ≤ arr.size := by
           have := Nat.mul_le_mul_right ie.size o1
           rw [Nat.zero_add] at m4
           omega
          refine ⟨arr.toList.take (len * ie.size), fun w' hb' => ?_, by simp; omega, fun j hj g1 F1 arr1 t1 hm1 hg1 => ?_⟩
          ·refine run_firstCells_some w' ie.size _ _ _ _ _ (by simp; omega) fun j v hj => ?_
           rw [addr_add_plain, hn, Nat.zero_mul, Nat.zero_add]
           have hjl : j < len * ie.size := by
            have := (List.getElem?_eq_some_iff.1 hj).1
            simp at this
            omega
           rw [List.getElem?_take, if_pos hjl, Array.getElem?_toList] at hj
           exact hb'.cellSome (by simp [World.cell?, m3, hj])
          ·rw [m1] at hm1
           cases hm1
           rw [m3] at hg1
           cases hg1
           rw [List.getElem?_take, if_pos hj, Array.getElem?_toList]
        have hroom : sCap ≠ 0 → ∃ g arr t', base = some ⟨g, 0, none⟩ ∧ w.heap[g]? = some (.cells arr t' (0, 0)) ∧ sCap * fe.size ≤ arr.size := fun q => by
         rcases o4 with o4 | ⟨g, F', arr, t', m1, m2, m3, m4⟩
         ·exact absurd o4 q
         ·rw [hn] at m4 m2
          exact ⟨g, arr, t', by rw [m2, Nat.zero_mul], m3, by rw [e2]; rw [Nat.zero_add] at m4; exact m4⟩
        have hra := run_app (P := P) (w := w) (t := t) (tx := tx) (ty := ty) (base := base) (sLen := len) (sCap := sCap) (olds := olds) h5 i5 e1 e4 l1 (by rw [e2]; exact l2) (by rw [e2]; exact l3) l4 (by rw [e2]; exact s1) (by rw [e2]; exact s2) o3 k1 (by rw [e3]; exact k2) hroom o1
        have core := fun cv w' => app_core R (b := b) hb0 (n := ie.size) (xs := xs) (ys := ys) (dp := dp) hb (.inl rfl) hsz1 (is := is) hbi (len := len) hlen (base := base) (sCap := sCap)
         (by rw [if_pos (show (Blk.arr ie.size xs dp).live = true from rfl)]; exact ho) (Fy := F) (news := news) l3 l5 l6 l7 l8 (el := el) (zs := ze.cells.size) (cv := cv) (w' := w') k1 e8
        rcases hra with ⟨q1, cap, q2, q3, rest, q4, q5⟩ | ⟨q1, q2, q3⟩ | ⟨q1, q2, g, arr, t', q3, q4, q5, q6⟩
        ·obtain ⟨M', R', hv⟩ := core _ _ (.inl ⟨cap, q2, q3, q1, rest, olds, q4, s2, s3, rfl, rfl⟩)
         exact ⟨_, _, _, _, M', _, kK, q5, R', hv⟩
        ·obtain ⟨M', R', hv⟩ := core _ _ (.inr (.inl ⟨q2, by omega, rfl, rfl⟩))
         exact ⟨_, _, _, _, M', _, kK, q3, R', hv⟩
        ·rw [e2] at q5 q6
         obtain ⟨M', R', hv⟩ := core _ _ (.inr (.inr ⟨q1, q2, g, arr, t', q3, q4, q5, rfl, rfl⟩))
         exact ⟨_, _, _, _, M', _, kK, q6, R', hv⟩
     ·exact H.elim
    ·exact H.elim
  ·exact H.elim
 ·exact H.elim
end
structure ZrW (n : Int) (bytes : Nat) (K : Nat → Prop) : Prop where
 ex : 1 ≤ n ∧ n ≤ 4611686018427387904 ∧ n * bytes ≤ 140737488355328 ∧ K n.toNat
def zrV (tt : TT) (t : Nat) (s : V) (n : Int) (h : List Blk) (K : V → List Blk → Prop) : Prop :=
 match tt t, s with
 | some { kind := .sl el, .. }, .nils => match tt el with
  | some ie => bif Nat.ble 1 ie.size then (match zD ie.zero with
   | some z => ZrW n ie.bytes fun k => K (.own h.length 0 k) (h ++ [.arr ie.size (List.replicate k z) true])
   | none => False) else False
  | none => False
 | _, _ => False
def appW (tt : TT) (t tx : Nat) (s x : V) (e : Env) (h : List Blk) (K : V → Env → List Blk → Prop) : Prop :=
 match tt tx, x with
 | some { kind := .int _, .. }, .d (.int _ n) => zrV tt t s n h fun v h => K v e h
 | _, _ => appV tt t tx s x e h K
section
variable {P : Program} {tt : TT} {B : World} {X : List Nat} {N : Nat} {M : MM} {e : Env} {h : List Blk} {a : Act} {w : World}
theorem zr_sound (hT : TOk P tt) (R : Rep B X N M e h a w) {t tx ty : Nat} {s : V} {cs : Value} {kq kn : IntKind} {n : Int} (hs : rep w M h s cs) (htn : P.underlying tx = some (.int kn)) {K : V → List Blk → Prop} (H : zrV tt t s n h K) :
  ∃ v cv h' M' w', K v h' ∧ (Builtin.append_ #[t, tx] ty #[cs, .int kq n]).run P w = .ok cv w' ∧ Rep B X N M' e h' a w' ∧ rep w' M' h' v cv := by
 unfold zrV at H
 split at H
 ·rename_i el sz by' zr eq0 hti
  obtain ⟨fi, d, z, h1, h2, h3, h4, h5, h6, h7, h8, h9⟩ := (hT t _ hti).ex
  cases d <;> first
   | exact (h6 : False).elim
   | skip
  cases (h6 : _ = el)
  split at H
  ·rename_i ie hie
   obtain ⟨fe, de, ze, e1, e2, e3, e4, e5, e6, e7, e8, e9⟩ := (hT _ _ hie).ex
   cases hq : Nat.ble 1 ie.size with
   | false => rw [hq] at H; exact H.elim
   | true =>
   rw [hq] at H
   simp only [cond_true] at H
   have hns := Nat.le_of_ble_eq_true hq
   split at H
   ·rename_i zd hz
    obtain ⟨⟨k1, k2, k3, H⟩⟩ := H
    cases rep_nils.1 hs
    obtain ⟨k, rfl⟩ : ∃ k : Nat, n = (k : Int) := ⟨n.toNat, by omega⟩
    rw [Int.toNat_natCast] at H
    have zr1 := rep1_cells (e7 w M h)
    obtain ⟨z1, z2⟩ := zD_own _ zd _ hz zr1
    have zsz : ze.cells.toList.length = ie.size := by rw [Array.length_toList]; exact e8
    have zds : zd.size = ie.size := by
     rw [z2, ← repC_len _ _ zr1, zsz]
    have k3' : k * ie.bytes ≤ 140737488355328 := by
     have : ((k * ie.bytes : Nat) : Int) ≤ 140737488355328 := by rw [Int.natCast_mul]; exact k3
     omega
    have hg : 0 < k := by omega
    have hrun := Lib.run_append_grow_zeros (P := P) w t tx ty _ _ _ kq kn h5 htn e1 e4 none 0 0 [] rfl k hg (by rw [e2]; omega) (by omega) (by omega) (by rw [e3]; omega) (by rw [e3]; have := growslice_fits (need := 0 + k) (old := 0) (bytes := ie.bytes) (by omega) (by rw [Nat.zero_add]; exact k3'); exact this)
    have hcapG := grownCap_ge w (0 + k) 0 el
    have hcapM := grownCap_le_maxLen w (0 + k) 0 el (by unfold maxLen; omega)
    generalize grownCap w (0 + k) 0 el = G at hrun hcapG hcapM
    have hat : ∀ i j, i < k → j < ie.size → (#[] ++ Builtin.zeroCells ze.cells k ++ Builtin.zeroCells ze.cells (G - (0 + k)))[i * ie.size + j]? = ze.cells[j]? := fun i j hk hj => by
     have hlt : i * ie.size + j < k * ie.size := by
      have := Nat.mul_le_mul_right ie.size (Nat.succ_le_of_lt hk)
      rw [Nat.succ_mul] at this
      omega
     have hm : (i * ie.size + j) % ze.cells.size = j := by
      rw [e8, Nat.add_comm, Nat.add_mul_mod_self_right, Nat.mod_eq_of_lt hj]
     have hj' : j < ze.cells.size := by omega
     rw [Array.empty_append, Array.getElem?_append_left (by rw [size_zeroCells, e8]; exact hlt)]
     have hm' : j % ie.size = j := Nat.mod_eq_of_lt hj
     simp [Builtin.zeroCells, e8, hlt, hm', getElem!_pos ze.cells j hj']
    have hown : ∀ (m i : Nat), i + m ≤ k → ownDe w (#[] ++ Builtin.zeroCells ze.cells k ++ Builtin.zeroCells ze.cells (G - (0 + k))) ie.size (List.replicate m zd) i [] := by
     intro m
     induction m with
     | zero => intro i _; rfl
     | succ m ih =>
      intro i hi
      refine ⟨[], [], ze.cells.toList, rfl, zds, fun j v hj => ?_, z1, ih (i + 1) (by omega)⟩
      have hjl : j < ie.size := by rw [← zsz]; exact (List.getElem?_eq_some_iff.1 hj).1
      rw [hat i j (by omega) hjl, ← Array.getElem?_toList]
      exact hj
    obtain ⟨M', R', hv⟩ := R.newRow (arr := #[] ++ Builtin.zeroCells ze.cells k ++ Builtin.zeroCells ze.cells (G - (0 + k))) (t := el) (n := ie.size) (cap := G) (xs := List.replicate k zd) (dp := true) (is := []) (ks := []) (F := []) (w1 := w.drew) (Ext.refl w).drew rfl
     (by rw [Array.empty_append, Array.size_append, size_zeroCells, size_zeroCells, e8, ← Nat.add_mul]; congr 1; omega) (by simp; omega) hcapM (by simp) (by simp) (by simp) (by simp)
     (by rw [if_pos rfl]; exact hown k 0 (by omega))
    simp only [dropE, dropK, goneL, set_last, List.length_replicate] at R' hv
    refine ⟨_, _, _, M', _, H, hrun, R', ?_⟩
    rw [Nat.zero_add] at hv ⊢
    exact hv
   ·exact H.elim
  ·exact H.elim
 ·exact H.elim
theorem appW_sound (hT : TOk P tt) (R : Rep B X N M e h a w) {t tx ty : Nat} {s x : V} {cs cx : Value} (hs : rep w M h s cs) (hx : rep w M h x cx) {K : V → Env → List Blk → Prop} (H : appW tt t tx s x e h K) :
  ∃ v cv e' h' M' w', K v e' h' ∧ (Builtin.append_ #[t, tx] ty #[cs, cx]).run P w = .ok cv w' ∧ Rep B X N M' e' h' a w' ∧ rep w' M' h' v cv := by
 unfold appW at H
 split at H
 ·rename_i k sz by' zr eq0 kq n hti
  obtain ⟨fi, d, z, h1, h2, h3, h4, h5, h6, h7, h8, h9⟩ := (hT tx _ hti).ex
  cases d <;> first
   | exact (h6 : False).elim
   | skip
  cases (h6 : _ = k)
  obtain ⟨rfl, -⟩ := rep_int.1 hx
  obtain ⟨v, cv, h', M', w', r1, r2, r3, r4⟩ := zr_sound (ty := ty) hT R hs h5 H
  exact ⟨v, cv, e, h', M', w', r1, r2, r3, r4⟩
 ·exact app_sound hT R hs hx H
end
def fsOK (tt : TT) : List (Nat × Nat) → Nat → Bool
 | [], _ => true
 | (o, f) :: fs, j => Nat.beq o j && (match tt f with | some i => Nat.beq i.size 1 | none => false) && fsOK tt fs (j + 1)
def zsOf : V → List V
 | .st zs => zs
 | _ => []
def ones : List V → Bool
 | [] => true
 | v :: vs => Nat.beq v.size 1 && ones vs
def gapV (e : Env) : List (Nat × Operand) → List V → List V
 | [], zs => zs
 | (i, x) :: ps, zs => gapV e ps (setN zs i (ev e x))
def gapOK (e : Env) (n : Nat) : List (Nat × Operand) → Bool
 | [] => true
 | (i, x) :: ps => Nat.ble (i + 1) n && (ev e x).okc && Nat.beq (ev e x).size 1 && gapOK e n ps
def isStV : V → Bool
 | .st _ => true
 | _ => false
def szs : List V → List Nat
 | [] => []
 | v :: vs => v.size :: szs vs
def fsG (tt : TT) : List (Nat × Nat) → List Nat → Nat → Bool
 | [], [], _ => true
 | (o, f) :: fs, n :: ns, j => Nat.beq o j && (match tt f with | some i => Nat.beq i.size n | none => false) && fsG tt fs ns (j + n)
 | [], _ :: _, _ => false
 | _ :: _, [], _ => false
def atN : List Nat → Nat → Option Nat
 | [], _ => none
 | n :: _, 0 => some n
 | _ :: ns, i + 1 => atN ns i
def gapG (e : Env) (ns : List Nat) : List (Nat × Operand) → Bool
 | [] => true
 | (i, x) :: ps => (match atN ns i with | some n => Nat.beq (ev e x).size n | none => false) && (ev e x).okc && gapG e ns ps
def buildV (tt : TT) (t : Nat) (ps : List (Nat × Operand)) (e : Env) (K : V → Prop) : Prop :=
 match tt t with
 | some { kind := .strct fs, size := sz, zero := zr, .. } => bif inOrd ps 0 && Nat.beq ps.length fs.length && Nat.beq sz fs.length && fsOK tt fs 0 && sizesB 1 (evs e (partOps ps)) then K (.st (evs e (partOps ps))) else
   bif inOrd ps 0 && Nat.ble ps.length fs.length && Nat.beq sz fs.length && fsOK tt fs 0 && sizesB 1 (evs e (partOps ps)) && Nat.beq (zsOf zr).length fs.length && ones (zsOf zr) then K (.st (evs e (partOps ps) ++ (zsOf zr).drop ps.length)) else
   bif Nat.beq sz fs.length && fsOK tt fs 0 && gapOK e fs.length ps && Nat.beq (zsOf zr).length fs.length && ones (zsOf zr) then K (.st (gapV e ps (zsOf zr))) else
   bif isStV zr && fsG tt fs (szs (zsOf zr)) 0 && gapG e (szs (zsOf zr)) ps then K (.st (gapV e ps (zsOf zr))) else False
 | _ => False
theorem fill_congr {p q : Nat → Option (Nat × Nat)} : ∀ (ps : List (Nat × Value)) (cs : Array Value), (∀ x ∈ ps, p x.1 = q x.1) → Instr.fill p cs ps = Instr.fill q cs ps
 | [], cs, _ => rfl
 | (i, v) :: ps, cs, H => by
  simp only [Instr.fill]
  rw [H (i, v) (by simp)]
  cases q i with
  | none => rfl
  | some z =>
   obtain ⟨o, n⟩ := z
   dsimp only
   split
   ·rfl
   ·exact fill_congr ps _ (fun x hx => H x (by simp [hx]))
theorem places_of {P : Program} {tt : TT} (hT : TOk P tt) : ∀ (gs : List Field) (j : Nat), fsOK tt (gs.map fun f => (f.offset, f.type)) j = true →
  gs.mapM (fun f => (P.info? f.type).map fun i => (f.offset, i.size)) = some ((List.range' j gs.length).map fun i => (i, 1))
 | [], j, _ => rfl
 | g :: gs, j, H => by
  simp only [List.map_cons, fsOK, Bool.and_eq_true, nbeq] at H
  obtain ⟨⟨h1, h2⟩, h3⟩ := H
  have ih := places_of hT gs (j + 1) h3
  cases hi : tt g.type with
  | none => rw [hi] at h2; cases h2
  | some i =>
   rw [hi] at h2
   have h2 : i.size = 1 := by simpa [nbeq] using h2
   obtain ⟨fi, d, z, k1, k2, _⟩ := (hT _ _ hi).ex
   simp only [List.mapM_cons, k1, Option.map_some, Option.bind_eq_bind, Option.bind_some, ih, Option.pure_def, List.length_cons, List.range'_succ, List.map_cons, k2, h2, h1]
section
variable {P : Program} {tt : TT} {B : World} {X : List Nat} {N : Nat} {M : MM} {e : Env} {h : List Blk} {a : Act} {w : World}
theorem repCs_drop1 : ∀ (vs : List V) (cs : List Value) (n : Nat), ones vs = true → repCs w M h vs cs → repCs w M h (vs.drop n) (cs.drop n)
 | [], cs, n, _, H => by
  have H : cs = [] := H
  subst H
  simp only [List.drop_nil]; rfl
 | v :: vs, cs, 0, _, H => H
 | v :: vs, cs, n + 1, ho, H => by
  simp only [ones, Bool.and_eq_true, nbeq] at ho
  obtain ⟨c1, c2, rfl, h1, h2⟩ := H
  have hl := repC_len _ _ h1
  rw [ho.1] at hl
  obtain ⟨x, rfl⟩ := List.length_eq_one_iff.1 hl
  exact repCs_drop1 vs c2 n ho.2 h2
theorem repCs_app : ∀ (us : List V) (cs : List Value) (vs : List V) (ds : List Value), repCs w M h us cs → repCs w M h vs ds → repCs w M h (us ++ vs) (cs ++ ds)
 | [], cs, vs, ds, H, H2 => by
  have H : cs = [] := H
  subst H
  exact H2
 | u :: us, cs, vs, ds, H, H2 => by
  obtain ⟨c1, c2, rfl, h1, h2⟩ := H
  exact ⟨c1, c2 ++ ds, List.append_assoc _ _ _, h1, repCs_app us c2 vs ds h2 H2⟩
theorem repCs_set1 : ∀ (zs : List V) (cs : List Value) (i : Nat) (v : V) (c : Value), ones zs = true → repCs w M h zs cs → i < zs.length → repC w M h v [c] → v.size = 1 → repCs w M h (setN zs i v) (cs.set i c) ∧ ones (setN zs i v) = true ∧ (setN zs i v).length = zs.length
 | [], _, _, _, _, _, _, hi, _, _ => by simp at hi
 | u :: zs, cs, i, v, c, ho, H, hi, hv, hs => by
  simp only [ones, Bool.and_eq_true, nbeq] at ho
  obtain ⟨c1, c2, rfl, h1, h2⟩ := H
  have hl := repC_len _ _ h1
  rw [ho.1] at hl
  obtain ⟨x, rfl⟩ := List.length_eq_one_iff.1 hl
  cases i with
  | zero => exact ⟨⟨[c], c2, rfl, hv, h2⟩, by simp [setN, ones, nbeq, hs, ho.2], rfl⟩
  | succ i =>
   obtain ⟨k1, k2, k3⟩ := repCs_set1 zs c2 i v c ho.2 h2 (by simpa using hi) hv hs
   exact ⟨⟨[x], c2.set i c, rfl, h1, k1⟩, by simp [setN, ones, nbeq, ho.1, k2], by simp [setN, k3]⟩
theorem gap_fill (R : Rep B X N M e h a w) (n : Nat) : ∀ (ps : List (Nat × Operand)) (zs : List V) (cs : List Value), (∀ x ∈ partOps ps, cOK x = true) → gapOK e n ps = true → ones zs = true → zs.length = n → cs.length = n → repCs w M h zs cs →
  ∃ cs' : List Value, Instr.fill (fun i => some (i * 1, 1)) cs.toArray (ps.map fun (i, x) => (i, a.eval x)) = some cs'.toArray ∧ repCs w M h (gapV e ps zs) cs'
 | [], zs, cs, _, _, _, _, _, H => ⟨cs, rfl, H⟩
 | (i, x) :: ps, zs, cs, hc, hg, ho, hz, hcl, H => by
  simp only [gapOK, Bool.and_eq_true, nbeq] at hg
  obtain ⟨⟨⟨g1, g2⟩, g3⟩, g4⟩ := hg
  have g1 := Nat.le_of_ble_eq_true g1
  have hx := rep1_cells (rep1_of_rep g2 (ev_rep R.env x (hc x (by simp [partOps]))))
  have hl := repC_len _ _ hx
  rw [g3] at hl
  obtain ⟨c, hcc⟩ := List.length_eq_one_iff.1 hl
  have hca : (a.eval x).cells = #[c] := by rw [← Array.toList_inj, hcc]
  rw [hcc] at hx
  obtain ⟨k1, k2, k3⟩ := repCs_set1 zs cs i (ev e x) c ho H (by omega) hx g3
  obtain ⟨cs', q1, q2⟩ := gap_fill R n ps (setN zs i (ev e x)) (cs.set i c) (fun y hy => hc y (by simp [partOps, hy])) g4 k2 (by omega) (by simp [hcl]) k1
  refine ⟨cs', ?_, q2⟩
  simp only [List.map_cons, Instr.fill, hca]
  rw [if_neg (by simp; omega), ← q1]
  congr 1
  apply Array.ext'
  simp
def plS : List Nat → Nat → List (Nat × Nat)
 | [], _ => []
 | n :: ns, j => (j, n) :: plS ns (j + n)
def ofS : List Nat → Nat → Nat
 | [], _ => 0
 | _ :: _, 0 => 0
 | n :: ns, i + 1 => n + ofS ns i
theorem plS_at : ∀ (ns : List Nat) (j i n : Nat), atN ns i = some n → (plS ns j)[i]? = some (j + ofS ns i, n)
 | [], _, _, _, h => by cases h
 | m :: ns, j, 0, n, h => by cases h; simp [plS, ofS]
 | m :: ns, j, i + 1, n, h => by
  have := plS_at ns (j + m) i n h
  simp only [plS, List.getElem?_cons_succ, this, ofS]
  congr 2; omega
theorem places_G (hT : TOk P tt) : ∀ (gs : List Field) (ns : List Nat) (j : Nat), fsG tt (gs.map fun f => (f.offset, f.type)) ns j = true →
  gs.mapM (fun f => (P.info? f.type).map fun i => (f.offset, i.size)) = some (plS ns j)
 | [], [], j, _ => rfl
 | [], _ :: _, j, H => by cases H
 | _ :: _, [], j, H => by cases H
 | g :: gs, n :: ns, j, H => by
  simp only [List.map_cons, fsG, Bool.and_eq_true, nbeq] at H
  obtain ⟨⟨h1, h2⟩, h3⟩ := H
  have ih := places_G hT gs ns (j + n) h3
  cases hi : tt g.type with
  | none => rw [hi] at h2; cases h2
  | some i =>
   rw [hi] at h2
   have h2 : i.size = n := by simpa [nbeq] using h2
   obtain ⟨fi, d, z, k1, k2, _⟩ := (hT _ _ hi).ex
   simp only [List.mapM_cons, k1, Option.map_some, Option.bind_eq_bind, Option.bind_some, ih, Option.pure_def, plS, k2, h2, h1]
theorem put_mid (c1 c2 c3 : List Value) (vc : Array Value) (hl : c2.length = vc.size) : vc.zipIdx.foldl (fun cs (x : Value × Nat) => cs.setIfInBounds (c1.length + x.2) x.1) (c1 ++ c2 ++ c3).toArray = (c1 ++ vc.toList ++ c3).toArray := by
 have hput : ∀ (cs : List Value) (k : Nat) (d z r : List Value), d.length = c1.length + k → z.length = cs.length → (cs.zipIdx k).foldl (fun (acc : Array Value) (p : Value × Nat) => acc.setIfInBounds (c1.length + p.2) p.1) (d ++ z ++ r).toArray = (d ++ cs ++ r).toArray := by
  intro cs
  induction cs with
  | nil => intro k d z r _ hz; have : z = [] := List.eq_nil_of_length_eq_zero (by simpa using hz); subst this; simp
  | cons c cs ih =>
   intro k d z r hd hz
   cases z with
   | nil => simp at hz
   | cons z0 z =>
    simp only [List.zipIdx_cons, List.foldl_cons]
    have : (d ++ (z0 :: z) ++ r).toArray.setIfInBounds (c1.length + k) c = ((d ++ [c]) ++ z ++ r).toArray := by
     apply Array.ext'
     simp only [Array.toList_setIfInBounds, List.append_assoc]
     rw [← hd]
     simp
    rw [this, ih (k + 1) (d ++ [c]) z r (by simp [hd]; omega) (by simpa using hz)]
    simp
 rw [← Array.foldl_toList, Array.toList_zipIdx]
 exact hput vc.toList 0 c1 c2 c3 (by simp) (by rw [Array.length_toList]; exact hl)
theorem repCs_setG : ∀ (zs : List V) (cs : List Value) (i n : Nat) (v : V) (c : List Value), repCs w M h zs cs → atN (szs zs) i = some n → repC w M h v c → v.size = n → szs (setN zs i v) = szs zs ∧ ∃ c1 c2 c3, cs = c1 ++ c2 ++ c3 ∧ c1.length = ofS (szs zs) i ∧ c2.length = n ∧ repCs w M h (setN zs i v) (c1 ++ c ++ c3)
 | [], _, _, _, _, _, _, hi, _, _ => by cases hi
 | u :: zs, cs, 0, n, v, c, H, hi, hv, hs => by
  obtain ⟨c1, c2, rfl, h1, h2⟩ := H
  have hi : u.size = n := by cases hi; rfl
  exact ⟨by simp [setN, szs, hs, hi], [], c1, c2, by simp, rfl, by rw [repC_len _ _ h1, hi], c, c2, by simp, hv, h2⟩
 | u :: zs, cs, i + 1, n, v, c, H, hi, hv, hs => by
  obtain ⟨c1, c2, rfl, h1, h2⟩ := H
  obtain ⟨k1, d1, d2, d3, rfl, e1, e2, e3⟩ := repCs_setG zs c2 i n v c h2 hi hv hs
  exact ⟨by simp [setN, szs, k1], c1 ++ d1, d2, d3, by simp, by simp [szs, ofS, e1, repC_len _ _ h1], e2, c1, d1 ++ c ++ d3, by simp, h1, e3⟩
theorem gap_fillG (R : Rep B X N M e h a w) (ns : List Nat) : ∀ (ps : List (Nat × Operand)) (zs : List V) (cs : List Value), (∀ x ∈ partOps ps, cOK x = true) → gapG e ns ps = true → szs zs = ns → repCs w M h zs cs →
  ∃ cs' : List Value, Instr.fill (fun i => (plS ns 0)[i]?) cs.toArray (ps.map fun (i, x) => (i, a.eval x)) = some cs'.toArray ∧ repCs w M h (gapV e ps zs) cs'
 | [], zs, cs, _, _, _, H => ⟨cs, rfl, H⟩
 | (i, x) :: ps, zs, cs, hc, hg, hz, H => by
  simp only [gapG, Bool.and_eq_true] at hg
  obtain ⟨⟨g1, g2⟩, g4⟩ := hg
  cases hn : atN ns i with
  | none => rw [hn] at g1; cases g1
  | some n =>
   rw [hn] at g1
   have g1 : (ev e x).size = n := by simpa [nbeq] using g1
   have hx := rep1_cells (rep1_of_rep g2 (ev_rep R.env x (hc x (by simp [partOps]))))
   have hl := repC_len _ _ hx
   obtain ⟨k1, c1, c2, c3, rfl, e1, e2, e3⟩ := repCs_setG zs cs i n (ev e x) _ H (by rw [hz]; exact hn) hx g1
   obtain ⟨cs', q1, q2⟩ := gap_fillG R ns ps (setN zs i (ev e x)) _ (fun y hy => hc y (by simp [partOps, hy])) g4 (by rw [k1, hz]) e3
   refine ⟨cs', ?_, q2⟩
   rw [hz] at e1
   rw [Array.length_toList, g1] at hl
   simp only [List.map_cons, Instr.fill, plS_at ns 0 i n hn]
   rw [if_neg (by simp only [Bool.or_eq_true, decide_eq_true_eq, ne_eq, not_or, Decidable.not_not, gt_iff_lt]; exact ⟨hl, by simp; omega⟩), ← q1, Nat.zero_add, ← e1]
   congr 1
   exact put_mid c1 c2 c3 (a.eval x).cells (by omega)
theorem build_sound (hT : TOk P tt) (R : Rep B X N M e h a w) {t : Nat} {ps : List (Nat × Operand)} (hc : ∀ x ∈ partOps ps, cOK x = true) {K : V → Prop} (H : buildV tt t ps e K) :
  ∃ v cv, K v ∧ (Instr.build t (ps.map fun (i, x) => (i, a.eval x)).toArray).run P w = .ok cv w ∧ rep w M h v cv := by
 unfold buildV at H
 split at H
 ·rename_i fs sz by' zr eq0 hti
  obtain ⟨fi, d, z, h1, h2, h3, h4, h5, h6, h7, h8, h9⟩ := (hT t _ hti).ex
  cases d <;> first
   | exact (h6 : False).elim
   | skip
  rename_i gs
  have h6 : gs.toList.map (fun f => (f.offset, f.type)) = fs := h6
  cases hq : (inOrd ps 0 && Nat.beq ps.length fs.length && Nat.beq sz fs.length && fsOK tt fs 0 && sizesB 1 (evs e (partOps ps))) with
  | false =>
   rw [hq] at H
   simp only [cond_false] at H
   cases hq2 : (inOrd ps 0 && Nat.ble ps.length fs.length && Nat.beq sz fs.length && fsOK tt fs 0 && sizesB 1 (evs e (partOps ps)) && Nat.beq (zsOf zr).length fs.length && ones (zsOf zr)) with
   | false =>
    rw [hq2] at H
    simp only [cond_false] at H
    cases hq3 : (Nat.beq sz fs.length && fsOK tt fs 0 && gapOK e fs.length ps && Nat.beq (zsOf zr).length fs.length && ones (zsOf zr)) with
    | false =>
     rw [hq3] at H
     simp only [cond_false] at H
     cases hq4 : (isStV zr && fsG tt fs (szs (zsOf zr)) 0 && gapG e (szs (zsOf zr)) ps) with
     | false => rw [hq4] at H; exact H.elim
     | true =>
      rw [hq4] at H
      simp only [cond_true] at H
      simp only [Bool.and_eq_true] at hq4
      obtain ⟨⟨q3, q4⟩, q5⟩ := hq4
      have hpl := places_G hT gs.toList (szs (zsOf zr)) 0 (by rw [h6]; exact q4)
      have hzr : repCs w M h (zsOf zr) z.cells.toList := by
       have h7 := h7 w M h
       cases zr with
       | st zs =>
        unfold rep1 at h7
        rw [if_pos (show (V.st zs).isAgg = true from rfl)] at h7
        obtain ⟨cs, rfl, k⟩ := h7
        exact k
       | _ => cases q3
      obtain ⟨cs', f1, f2⟩ := gap_fillG R (szs (zsOf zr)) ps (zsOf zr) z.cells.toList hc q5 rfl hzr
      have hb : P.built t (ps.map fun (i, x) => (i, a.eval x)).toArray.toList = some cs'.toArray := by
       unfold Program.built
       rw [h1, h5]
       dsimp only
       rw [h4, hpl]
       dsimp only
       rw [← f1]
       congr 1
       funext i
       simp
      refine ⟨_, _, H, run_build w t _ _ hb, ?_⟩
      show rep1 w M h (.st _) _
      unfold rep1
      rw [if_pos (show (V.st (gapV e ps (zsOf zr))).isAgg = true from rfl)]
      exact ⟨_, rfl, f2⟩
    | true =>
     rw [hq3] at H
     simp only [cond_true] at H
     simp only [Bool.and_eq_true, nbeq] at hq3
     obtain ⟨⟨⟨⟨q3, q4⟩, q5⟩, q6⟩, q7⟩ := hq3
     have hpl := places_of hT gs.toList 0 (by rw [h6]; exact q4)
     have hgl : gs.toList.length = fs.length := by rw [← h6, List.length_map]
     have hz : z.cells.toList.length = fs.length := by rw [Array.length_toList, h8]; exact q3
     have hzr : repCs w M h (zsOf zr) z.cells.toList := by
      have h7 := h7 w M h
      cases zr with
      | st zs =>
       unfold rep1 at h7
       rw [if_pos (show (V.st zs).isAgg = true from rfl)] at h7
       obtain ⟨cs, rfl, k⟩ := h7
       exact k
      | _ =>
       have : z.cells.toList = [] := List.eq_nil_of_length_eq_zero (by rw [hz, ← q6]; rfl)
       rw [this]
       rfl
     obtain ⟨cs', f1, f2⟩ := gap_fill R fs.length ps (zsOf zr) z.cells.toList hc q5 q7 q6 hz hzr
     have hidx : ∀ (ps : List (Nat × Operand)), gapOK e fs.length ps = true → ∀ x ∈ ps.map fun (i, x) => (i, a.eval x), x.1 < fs.length := by
      intro ps
      induction ps with
      | nil => intro _ x hx; simp at hx
      | cons p ps ih =>
       obtain ⟨i, o⟩ := p
       intro hg x hx
       simp only [gapOK, Bool.and_eq_true] at hg
       simp only [List.map_cons] at hx
       rcases List.mem_cons.1 hx with rfl | hx
       ·have := Nat.le_of_ble_eq_true hg.1.1.1
        show i < fs.length
        omega
       ·exact ih hg.2 x hx
     have hb : P.built t (ps.map fun (i, x) => (i, a.eval x)).toArray.toList = some cs'.toArray := by
      unfold Program.built
      rw [h1, h5]
      dsimp only
      rw [h4, hpl]
      dsimp only
      rw [fill_congr (q := fun i => some (i * 1, 1))]
      ·rw [← f1]
      ·intro x hx
       have hx : x ∈ ps.map fun (i, x) => (i, a.eval x) := by simpa using hx
       have hx1 := hidx ps q5 x hx
       rw [hgl]
       simp only [List.getElem?_toArray, List.getElem?_map]
       rw [List.getElem?_range' (by omega)]
       simp
     refine ⟨_, _, H, run_build w t _ _ hb, ?_⟩
     show rep1 w M h (.st _) _
     unfold rep1
     rw [if_pos (show (V.st (gapV e ps (zsOf zr))).isAgg = true from rfl)]
     exact ⟨_, rfl, f2⟩
   | true =>
    rw [hq2] at H
    simp only [cond_true] at H
    simp only [Bool.and_eq_true, nbeq] at hq2
    obtain ⟨⟨⟨⟨⟨⟨q1, q2⟩, q3⟩, q4⟩, q5⟩, q6⟩, q7⟩ := hq2
    have q2 : ps.length ≤ fs.length := Nat.le_of_ble_eq_true q2
    obtain ⟨css, c1, c2, c3⟩ := evs_repC R (partOps ps) hc q5
    have hpl := places_of hT gs.toList 0 (by rw [h6]; exact q4)
    have hgl : gs.toList.length = fs.length := by rw [← h6, List.length_map]
    have hz : z.cells.toList.length = fs.length := by rw [Array.length_toList, h8]; exact q3
    have hzr : repCs w M h (zsOf zr) z.cells.toList := by
     have h7 := h7 w M h
     cases zr with
     | st zs =>
      unfold rep1 at h7
      rw [if_pos (show (V.st zs).isAgg = true from rfl)] at h7
      obtain ⟨cs, rfl, k⟩ := h7
      exact k
     | _ =>
      have : z.cells.toList = [] := List.eq_nil_of_length_eq_zero (by rw [hz, ← q6]; rfl)
      rw [this]
      rfl
    have hfill := fill_row (n := 1) ((partOps ps).map a.eval) 0 [] (z.cells.toList.drop ps.length) (z.cells.toList.take ps.length) (by simp) (fun v hv => by
     have : v.cells.toList ∈ css := by rw [← c1]; exact List.mem_map_of_mem hv
     have := c2 _ this
     rw [Array.length_toList] at this
     exact this) (by simp [partOps_len]; rw [Array.length_toList] at hz; omega)
    rw [List.length_map, partOps_len, ← parts_zip ps 0 q1] at hfill
    rw [c1] at hfill
    simp only [List.nil_append, List.take_append_drop] at hfill
    have hb : P.built t (ps.map fun (i, x) => (i, a.eval x)).toArray.toList = some (css.flatten ++ z.cells.toList.drop ps.length).toArray := by
     unfold Program.built
     rw [h1, h5]
     dsimp only
     rw [h4, hpl]
     dsimp only
     rw [fill_congr (q := fun i => some (i * 1, 1))]
     ·rw [← hfill]
     ·intro x hx
      have hx : x ∈ ps.map fun (i, x) => (i, a.eval x) := by simpa using hx
      rw [parts_zip ps 0 q1] at hx
      have hx1 := (List.of_mem_zip (a := x.1) (b := x.2) hx).1
      simp only [List.mem_range'_1] at hx1
      rw [hgl]
      simp only [List.getElem?_toArray, List.getElem?_map]
      rw [List.getElem?_range' (by omega)]
      simp
    refine ⟨_, _, H, run_build w t _ _ hb, ?_⟩
    show rep1 w M h (.st _) _
    unfold rep1
    rw [if_pos (show (V.st (evs e (partOps ps) ++ (zsOf zr).drop ps.length)).isAgg = true from rfl)]
    exact ⟨_, rfl, repCs_app _ _ _ _ c3 (repCs_drop1 _ _ _ q7 hzr)⟩
  | true =>
   rw [hq] at H
   simp only [Bool.and_eq_true, nbeq] at hq
   obtain ⟨⟨⟨⟨q1, q2⟩, q3⟩, q4⟩, q5⟩ := hq
   obtain ⟨css, c1, c2, c3⟩ := evs_repC R (partOps ps) hc q5
   have hpl := places_of hT gs.toList 0 (by rw [h6]; exact q4)
   have hgl : gs.toList.length = ps.length := by rw [q2, ← h6, List.length_map]
   have hz : z.cells.toList.length = ps.length := by rw [Array.length_toList, h8]; exact q3.trans q2.symm
   have hfill := fill_row (n := 1) ((partOps ps).map a.eval) 0 [] [] z.cells.toList (by simp) (fun v hv => by
    have : v.cells.toList ∈ css := by rw [← c1]; exact List.mem_map_of_mem hv
    have := c2 _ this
    rw [Array.length_toList] at this
    exact this) (by simp [partOps_len, hz])
   rw [List.length_map, partOps_len, ← parts_zip ps 0 q1] at hfill
   rw [c1] at hfill
   simp only [List.nil_append, List.append_nil] at hfill
   have hb : P.built t (ps.map fun (i, x) => (i, a.eval x)).toArray.toList = some css.flatten.toArray := by
    unfold Program.built
    rw [h1, h5]
    dsimp only
    rw [h4, hpl]
    dsimp only
    rw [fill_congr (q := fun i => some (i * 1, 1))]
    ·rw [← hfill]
    ·intro x hx
     have hx : x ∈ ps.map fun (i, x) => (i, a.eval x) := by simpa using hx
     rw [parts_zip ps 0 q1] at hx
     have hx1 := (List.of_mem_zip (a := x.1) (b := x.2) hx).1
     simp only [List.mem_range'_1] at hx1
     rw [hgl]
     simp only [List.getElem?_toArray, List.getElem?_map]
     rw [List.getElem?_range' (by omega)]
     simp
   refine ⟨_, _, H, run_build w t _ _ hb, ?_⟩
   show rep1 w M h (.st _) _
   unfold rep1
   rw [if_pos (show (V.st (evs e (partOps ps))).isAgg = true from rfl)]
   exact ⟨_, rfl, c3⟩
 ·exact H.elim
end
def pt (d : Option Tmp) (v : V) (e : Env) : Env :=
 match d with
 | some d => (d, v) :: e
 | none => e
def okTs : List V → Bool
 | [] => true
 | v :: vs => v.okc && okTs vs
def modFs : List Nat := [22, 999999, 89, 45, 50, 44, 92, 90, 127, 49, 97, 91, 46, 51, 999999, 48]
def modF (f : Nat) : Bool := modFs.any (Nat.beq f)
def isMod (o : Oper) : Bool :=
 match o.op with
 | .store _ _ _ => true
 | .mapUpdate _ _ _ _ => true
 | .call { callee := .builtin .append, .. } => true
 | .call { callee := .value (.func f), .. } => modF f
 | _ => false
structure LtW (k n : Nat) (K : Prop) : Prop where
 ex : k < n ∧ K
def setV (tt : TT) (t : Nat) (p x : V) (e : Env) (h : List Blk) (K : Env → List Blk → Prop) : Prop :=
 match tt t, p with
 | some i, .pL b k [] off => match h[b]? with
  | some (.arr n xs true) => bif Nat.beq off 0 && Nat.beq i.size n && x.okc && Nat.beq x.size n then
    LtW k xs.length (tkV h x fun z is => bif nodupB is && !is.any (Nat.beq b) then K (dropE is e) ((goneL is (dropK is h)).set b (.arr n (xs.set k z) true)) else False)
   else False
  | _ => False
 | _, _ => False
def isWhole : V → V → Bool
 | .pL _ _ [] _, .d x => !x.flat
 | .pL _ _ [] _, .st _ => true
 | .pL _ _ [] _, .own _ _ _ => true
 | .pL _ _ [] _, .nils => true
 | _, _ => false
structure HlW (n : Nat) (K : Nat → Nat → Nat → TypeId → Prop) : Prop where
 ex : ∀ (g cap sz : Nat) (t : TypeId), (cap = 0 ∨ cap * n < sz) → K g cap sz t
def ownHl (h : List Blk) (b : Nat) (x : V) : Option (Nat × Nat × Nat) :=
 match x with
 | .own c 0 len => (match h[c]? with
  | some (.arr n _ true) => bif Nat.beq b c then none else some (c, len, n)
  | _ => none)
 | _ => none
def storeO (tt : TT) (t : Nat) (p x : V) (h : List Blk) (K : List Blk → Prop) : Prop :=
 match p with
 | .pL b _ _ _ => (match ownHl h b x with
  | some (c, len, n) => HlW n fun g cap sz t' => storeV tt t p (.d (.hole g len cap)) h fun h' => K (h' ++ [.pin c g sz t'])
  | none => storeV tt t p x h K)
 | p => storeV tt t p x h K
def loudV (P : Program) (tt : TT) (dr : Bool) (o : Oper) (e : Env) (h : List Blk) (K : V → Env → List Blk → Prop) : Prop :=
 match o.op with
 | .alloc t => allocV tt t h fun v h' => K v e h'
 | .box t x => boxV tt t (ev e x) h fun v h' => K v e h'
 | .store t p x => bif isWhole (ev e p) (ev e x) then setV tt t (ev e p) (ev e x) e h (fun e' h' => K .undef e' h') else storeO tt t (ev e p) (ev e x) h fun h' => K .undef e h'
 | .makeSlice t n c => makeV tt t (ev e n) (ev e c) h fun v h' => K v e h'
 | .makeMap t none => makeMapV tt t h fun v h' => K v e h'
 | .convert s d x => strBV tt s d (ev e x) h fun v h' => K v e h'
 | .mapUpdate t m k x => mapV tt t (ev e m) (ev e k) (ev e x) h fun h' => K .undef e h'
 | .buildSlice t n ⟨ps⟩ => litV tt t n ps e h K
 | .build t ⟨ps⟩ => buildV tt t ps e fun v => K v e h
 | .call { callee := .builtin .append, args := ⟨[s, x]⟩, argTypes := ⟨[t, tx]⟩ } => appW tt t tx (ev e s) (ev e x) e h K
 | .call { callee := .value f, args := ⟨xs⟩, .. } => match ev e f with
  | .fn (.func fid) caps => bif okTs (evs e xs) && capsOK caps then CallW P (dr && !isMod o) fid (evs e xs ++ caps) e h K else False
  | .d (.fnv (.func fid)) => bif okTs (evs e xs) then CallW P (dr && !isMod o) fid (evs e xs ++ []) e h K else False
  | _ => False
 | _ => False
section
variable {P : Program} {tt : TT} {B : World} {X : List Nat} {N : Nat} {M : MM} {e : Env} {h : List Blk} {a : Act} {w : World}
theorem gt_cons (k : Nat) (v : V) (e : Env) (i : Nat) : gt ((k, v) :: e) i = if k = i then v else gt e i := by
 show (bif Nat.beq k i then v else gt e i) = _
 by_cases hk : k = i
 ·subst hk; simp
 ·rw [if_neg hk]
  have : Nat.beq k i = false := by
   cases hb : Nat.beq k i with
   | false => rfl
   | true => exact absurd (Nat.eq_of_beq_eq_true hb) hk
  rw [this]; rfl
theorem Rep.put (R : Rep B X N M e h a w) {d : Option Tmp} (hd : ∀ k, d = some k → k < N) {v : V} {cv : Value} (hv : rep w M h v cv) : Rep B X N M (pt d v e) h (a.put d cv) w := by
 cases d with
 | none => exact R
 | some d =>
  have hlt : d < a.tmps.size := by rw [R.sz]; exact hd d rfl
  refine ⟨R.ext, R.inv, fun k => ?_, by simp [Act.put, R.sz], R.df, R.fr, R.fh⟩
  show rep w M h (gt ((d, v) :: e) k) _
  rw [gt_cons]
  by_cases hk : d = k
  ·subst hk
   rw [if_pos rfl]
   simp only [Act.put, Array.getD_eq_getD_getElem?]
   rw [Array.getElem?_setIfInBounds_self_of_lt hlt]
   exact hv
  ·rw [if_neg hk]
   have := R.env k
   simp only [Act.put, Array.getD_eq_getD_getElem?] at this ⊢
   rw [Array.getElem?_setIfInBounds_ne hk]
   exact this
theorem Rep.know (R : Rep B X N M e h a w) {d : Nat} {v : V} (hv : rep w M h v (a.tmps.getD d Go.undef)) : Rep B X N M ((d, v) :: e) h a w :=
 ⟨R.ext, R.inv, fun k => by
  rw [gt_cons]
  by_cases hk : d = k
  ·subst hk; rw [if_pos rfl]; exact hv
  ·rw [if_neg hk]; exact R.env k, R.sz, R.df, R.fr, R.fh⟩
theorem evs_repT (R : Rep B X N M e h a w) : ∀ (xs : List Operand), (∀ x ∈ xs, cOK x = true) → okTs (evs e xs) = true → repT w M h (evs e xs) (xs.map a.eval)
 | [], _, _ => rfl
 | x :: xs, hc, ho => by
  simp only [evs, okTs, Bool.and_eq_true] at ho
  exact ⟨a.eval x, xs.map a.eval, rfl, rep1_of_rep ho.1 (ev_rep R.env x (hc x (by simp))), evs_repT R xs (fun y hy => hc y (by simp [hy])) ho.2⟩
theorem repT_app : ∀ (vs : List V) (cs : List Value) (us : List V) (ds : List Value), repT w M h vs cs → repT w M h us ds → repT w M h (vs ++ us) (cs ++ ds)
 | [], cs, us, ds, H, H' => by cases H; exact H'
 | v :: vs, cs, us, ds, H, H' => by
  obtain ⟨c, cs', rfl, h1, h2⟩ := H
  exact ⟨c, cs' ++ ds, rfl, h1, repT_app vs cs' us ds h2 H'⟩
theorem repT_caps : ∀ (vs : List V) (cs : List Value), capsOK vs = true → repK w M h vs cs → repT w M h vs cs
 | [], cs, _, H => H
 | v :: vs, cs, ho, H => by
  simp only [capsOK, Bool.and_eq_true, Bool.not_eq_true'] at ho
  obtain ⟨c, cs', rfl, h1, h2⟩ := H
  refine ⟨c, cs', rfl, ?_, repT_caps vs cs' ho.2 h2⟩
  unfold rep1
  rw [if_neg (by rw [ho.1.2]; simp)]
  exact h1
theorem set_sound (hT : TOk P tt) (R : Rep B X N M e h a w) {t : Nat} {p x : V} {cp cx : Value} (hp : rep w M h p cp) (hx : rep w M h x cx) {K : Env → List Blk → Prop} (H : setV tt t p x e h K) :
  ∃ e' h' M' w', K e' h' ∧ (Instr.storeAt t cp cx).run P w = .ok () w' ∧ Rep B X N M' e' h' a w' := by
 unfold setV at H
 split at H
 ·rename_i i b k off hi
  obtain ⟨g, F, hM, rfl⟩ := rep_pL.1 hp
  split at H
  ·rename_i n xs hc
   cases hq : (Nat.beq off 0 && Nat.beq i.size n && x.okc && Nat.beq x.size n) with
   | false => rw [hq] at H; exact H.elim
   | true =>
    rw [hq] at H
    simp only [Bool.and_eq_true, nbeq] at hq
    obtain ⟨⟨⟨rfl, q2⟩, q3⟩, q4⟩ := hq
    simp only [cond_true] at H
    obtain ⟨⟨hk, H⟩⟩ := H
    have hn0 : nOf h b = n := by simp [nOf, hc]
    have hxc := rep1_cells (rep1_of_rep q3 hx)
    obtain ⟨z, is, Fz, kK, z1, z2, z3, z4, z5⟩ := tk_sound R.inv x _ _ H hxc
    cases hqi : (nodupB is && !is.any (Nat.beq b)) with
    | false => rw [hqi] at kK; exact kK.elim
    | true =>
     rw [hqi] at kK
     simp only [cond_true] at kK
     simp only [Bool.and_eq_true, Bool.not_eq_true', List.any_eq_false] at hqi
     have hbi : b ∉ is := fun hi => hqi.2 b hi (Nat.beq_refl b)
     have hFz := z3 (nodupB_spec is hqi.1)
     have hb0 : b ≠ 0 := fun e0 => by
      subst e0
      rw [R.fh] at hc
      cases hc
     obtain ⟨arr, t', hg, hsz, hel⟩ := R.inv.blk b _ _ hc hM
     rw [if_pos rfl] at hel
     have hlx := repC_len x _ hxc
     rw [Array.length_toList] at hlx
     have hkn : (k + 1) * n ≤ xs.length * n := Nat.mul_le_mul_right _ hk
     rw [Nat.succ_mul] at hkn
     have e1 : arr.toList = arr.toList.take (k * n) ++ (arr.toList.drop (k * n)).take n ++ arr.toList.drop (k * n + n) := split3 _ _ _
     have hrun := run_store_row (P := P) (hT t i hi) hg (cx := cx) (by omega) (repC_one x _ hxc) e1 (o := k * n) (by simp; omega) (by simp; omega)
     have hsz2 : (arr.toList.take (k * n) ++ cx.cells.toList ++ arr.toList.drop (k * n + n)).toArray.size = arr.size := by simp; omega
     have hget : ∀ j, (arr.toList.take (k * n) ++ cx.cells.toList ++ arr.toList.drop (k * n + n)).toArray[j]? = if k * n ≤ j ∧ j < k * n + n then cx.cells.toList[j - k * n]? else arr[j]? := by
      intro j
      rw [List.getElem?_toArray, List.append_assoc]
      have ht : (arr.toList.take (k * n)).length = k * n := by simp; omega
      by_cases j1 : j < k * n
      ·rw [List.getElem?_append_left (by omega), if_neg (by omega), List.getElem?_take, if_pos j1, Array.getElem?_toList]
      ·rw [List.getElem?_append_right (by omega), ht]
       by_cases j2 : j < k * n + n
       ·rw [List.getElem?_append_left (by simp; omega), if_pos ⟨by omega, j2⟩]
       ·rw [List.getElem?_append_right (by simp; omega), if_neg (by omega), List.getElem?_drop, Array.getElem?_toList]
        congr 1
        simp
        omega
     have key : ∃ F1 F2 F3, F = F1 ++ F2 ++ F3 ∧ ownDe w (arr.toList.take (k * n) ++ cx.cells.toList ++ arr.toList.drop (k * n + n)).toArray n (xs.set k z) 0 (F1 ++ Fz ++ F3) := by
      have hsplit : xs = xs.take k ++ xs.drop k := (List.take_append_drop k xs).symm
      have htl : (xs.take k).length = k := by simp; omega
      have hd : xs.drop k = xs[k] :: xs.drop (k + 1) := List.drop_eq_getElem_cons hk
      rw [hsplit, hd] at hel
      obtain ⟨F1, F23, rfl, m1, F2, F3, ces, rfl, m2, m3, m4, m5⟩ := (ownDe_app _ _ _ _).1 hel
      refine ⟨F1, F2, F3, by simp, ?_⟩
      have hset : xs.set k z = xs.take k ++ z :: xs.drop (k + 1) := by
       rw [List.set_eq_take_append_cons_drop, if_pos hk]
      rw [hset]
      rw [show F1 ++ Fz ++ F3 = F1 ++ (Fz ++ F3) from List.append_assoc _ _ _]
      refine (ownDe_app _ _ _ _).2 ⟨F1, Fz ++ F3, rfl, ownDe_at _ 0 0 F1 (fun c hc' j hj => ?_) m1, Fz, F3, cx.cells.toList, rfl, by rw [z2]; exact q4, fun j v hj => ?_, z1, ownDe_at _ _ _ F3 (fun c hc' j hj => ?_) m5⟩
      ·rw [htl] at hc'
       have := Nat.mul_le_mul_right n (Nat.succ_le_of_lt hc')
       rw [Nat.succ_mul] at this
       rw [hget, Nat.zero_add, if_neg (by omega)]
      ·have hjl : j < n := by
        have := (List.getElem?_eq_some_iff.1 hj).1
        rw [Array.length_toList] at this
        omega
       rw [htl, Nat.zero_add, hget, if_pos (by omega)]
       rw [show k * n + j - k * n = j by omega]; exact hj
      ·rw [htl, Nat.zero_add, hget, if_neg]
       rw [Nat.add_mul, Nat.succ_mul]
       omega
     obtain ⟨F1, F2, F3, rfl, key⟩ := key
     have hnd := mO_nodup' R.inv hM
     have hlo := R.inv.lo b _ _ hc hM rfl g (by simp [mO])
     have hgn := (List.nodup_cons.1 hnd).1
     have hFn := (List.nodup_cons.1 hnd).2
     have hzd : ∀ x ∈ Fz, x ≠ g ∧ x ∉ F1 ++ F2 ++ F3 := fun x hx => by
      obtain ⟨i, hi, m, hm, hxm⟩ := z4 x hx
      refine ⟨fun e0 => ?_, fun hF => ?_⟩
      ·subst e0
       have := O_block_inj R.inv hM hm (by simp [mO]) hxm
       subst this
       exact hbi hi
      ·have := O_block_inj R.inv hM hm (by simp only [mO, List.mem_cons]; exact .inr hF) hxm
       subst this
       exact hbi hi
     have hFm : ∀ x ∈ F1 ++ Fz ++ F3, x ∈ F1 ++ F2 ++ F3 ∨ x ∈ Fz := fun x hx => by
      simp only [List.mem_append] at hx ⊢
      rcases hx with (hx | hx) | hx
      ·exact .inl (.inl (.inl hx))
      ·exact .inr hx
      ·exact .inl (.inr hx)
     have hislv : ∀ i ∈ is, ∀ k, h[i]? = some k → k.live = true := fun i hi k hk => by
      obtain ⟨n1, xs1, h1⟩ := z5 i hi
      rw [h1] at hk
      cases hk
      rfl
     have hnof : nOf (h.set b (.arr n (xs.set k z) true)) b = nOf h b := by
      unfold nOf
      rw [List.getElem?_set_self (List.getElem?_eq_some_iff.1 hc).1, hc]
     obtain ⟨M', R', _, _⟩ := R.reset (ext_setRow R.ext hlo (arr.toList.take (k * n) ++ cx.cells.toList ++ arr.toList.drop (k * n + n)).toArray) hM hb0 hc (.inl rfl) is is
      (fun hi => by
       obtain ⟨n1, xs1, h1⟩ := z5 0 hi
       rw [R.fh] at h1
       cases h1) hbi (fun _ h => h) hislv (m' := some (g, F1 ++ Fz ++ F3))
      (List.nodup_cons.2 ⟨fun hm => by
       rcases hFm g hm with h1 | h1
       ·exact hgn h1
       ·exact (hzd g h1).1 rfl, by
       have n13 : (F1 ++ F3).Nodup := by
        have := hFn
        rw [List.append_assoc] at this
        have a1 := (List.nodup_append.1 this).1
        have a2 := (List.nodup_append.1 (List.nodup_append.1 this).2.1).2.1
        exact List.nodup_append.2 ⟨a1, a2, fun x hx y hy e0 => (List.nodup_append.1 this).2.2 x hx y (by simp [hy]) e0⟩
       have a1 := (List.nodup_append.1 n13).1
       have a2 := (List.nodup_append.1 n13).2.1
       have a3 := (List.nodup_append.1 n13).2.2
       refine List.nodup_append.2 ⟨List.nodup_append.2 ⟨a1, hFz, fun x hx y hy e0 => ?_⟩, a2, fun x hx y hy e0 => ?_⟩
       ·subst e0; exact (hzd x hy).2 (by simp [hx])
       ·subst e0
        rcases List.mem_append.1 hx with hx | hx
        ·exact a3 x hx x hy rfl
        ·exact (hzd x hx).2 (by simp [hy])⟩)
      (fun x hx => by
       rcases List.mem_cons.1 hx with rfl | hx
       ·exact .inl (by simp [mO])
       ·rcases hFm x hx with h1 | h1
        ·exact .inl (by simp only [mO, List.mem_cons]; exact .inr h1)
        ·exact .inr (.inl (z4 x h1)))
      (fun x hx => by
       rw [setRow_size]
       rcases List.mem_cons.1 hx with rfl | hx
       ·exact lt_of_heap hg
       ·rcases hFm x hx with h1 | h1
        ·exact R.inv.hi x (mem_O hM (by simp only [mO, List.mem_cons]; exact .inr h1))
        ·obtain ⟨i, hi, m, hm, hxm⟩ := z4 x h1
         exact R.inv.hi x (mem_O hm hxm)) (by rw [setRow_size]; exact Nat.le_refl _)
      (fun x hlt hx => setRow_other (fun e0 => hx (by subst e0; simp [mO])) _) (k' := .arr n (xs.set k z) true) rfl
      (fun _ g1 F1' hm => by
       cases hm
       refine ⟨⟨_, rfl⟩, hnof, fun arr1 t1 h1 => ?_⟩
       rw [hg] at h1
       cases h1
       exact ⟨_, setRow_at hg _, hsz2⟩)
      (fun M' h' _ => by
       refine ⟨_, _, setRow_at hg _, by rw [List.length_set, hsz2]; exact hsz, ?_⟩
       rw [if_pos rfl]
       refine ownDe_mv _ _ _ _ _ (fun x hx => setRow_other (fun e0 => ?_) _) key
       subst e0
       rcases hFm x hx with h1 | h1
       ·exact hgn h1
       ·exact (hzd x h1).1 rfl)
     rw [hn0, Nat.add_zero]
     exact ⟨_, _, M', _, kK, hrun, R'⟩
  ·exact H.elim
 ·exact H.elim
theorem ownHl_some {b : Nat} {x : V} {c len n : Nat} (H : ownHl h b x = some (c, len, n)) : x = .own c 0 len ∧ b ≠ c ∧ ∃ ys, h[c]? = some (.arr n ys true) := by
 unfold ownHl at H
 split at H
 ·split at H
  ·rename_i n' ys hc
   cases hq : Nat.beq b _ with
   | true => rw [hq] at H; cases H
   | false =>
    rw [hq] at H
    cases H
    exact ⟨rfl, (fun e => by rw [e, Nat.beq_refl] at hq; cases hq), ys, hc⟩
  ·cases H
 ·cases H
theorem storeO_sound (hT : TOk P tt) (R : Rep B X N M e h a w) {t : Nat} {p x : V} {cp cx : Value} (hp : rep w M h p cp) (hx : rep w M h x cx) {K : List Blk → Prop} (H : storeO tt t p x h K) :
  ∃ h' M' w', K h' ∧ (Instr.storeAt t cp cx).run P w = .ok () w' ∧ Rep B X N M' e h' a w' := by
 have plain : storeV tt t p x h K → ∃ h' M' w', K h' ∧ (Instr.storeAt t cp cx).run P w = .ok () w' ∧ Rep B X N M' e h' a w' := fun H => by
  obtain ⟨h', w', k1, k2, k3, _⟩ := store_sound hT R hp hx H
  exact ⟨h', M, w', k1, k2, k3⟩
 unfold storeO at H
 split at H
 ·rename_i b k q off
  split at H
  ·rename_i c len n hq
   obtain ⟨rfl, hbc, ys, hc⟩ := ownHl_some hq
   obtain ⟨ad, cap, rfl, l1, l2, l3, l4⟩ := rep_own.1 hx
   have hn : nOf h c = n := by simp [nOf, hc]
   obtain ⟨g, sz, ty, hcap, hh, hpin⟩ : ∃ (g sz : Nat) (ty : TypeId), (cap = 0 ∨ cap * n < sz) ∧ holeR g len cap [.slice ad len cap] ∧ (sz = 0 ∨ ∃ F arr, M[c]? = some (some (g, F)) ∧ w.heap[g]? = some (.cells arr ty (0, 0)) ∧ arr.size + 1 = sz) := by
    rcases l4 with l4 | ⟨g, F, arr, ty, m1, m2, m3, m4⟩
    ·exact ⟨0, 0, 0, .inl l4, ⟨ad, rfl, l1, l2, l3, .inl l4⟩, .inl rfl⟩
    ·rw [hn, Nat.zero_add] at m4
     rw [hn, Nat.zero_mul] at m2
     exact ⟨g, arr.size + 1, ty, .inr (by omega), ⟨ad, rfl, l1, l2, l3, .inr m2⟩, .inr ⟨F, arr, m1, m3, rfl⟩⟩
   have hx' : rep w M h (.d (.hole g len cap)) (.slice ad len cap) := rep_of_rep1 (v := .d (.hole g len cap)) hh
   obtain ⟨h', w', k1, k2, k3, mv⟩ := store_sound hT R hp hx' (H.ex g cap sz ty hcap)
   have hpin' : sz = 0 ∨ ∃ F arr, M[c]? = some (some (g, F)) ∧ w'.heap[g]? = some (.cells arr ty (0, 0)) ∧ arr.size + 1 = sz := by
    rcases hpin with hpin | ⟨F, arr, q1, q2, q3⟩
    ·exact .inl hpin
    ·obtain ⟨arr', r1, r2⟩ := mv.row c g F arr ty trivial q1 q2
     exact .inr ⟨F, arr', q1, r1, by rw [r2]; exact q3⟩
   have hO : MM.O [none] = [] := rfl
   have mv2 : Mv (fun _ => True) w' M h' w' (M ++ [none]) (h' ++ [.pin c g sz ty]) := push_mv k3.inv.len (Ext.refl w') k3.inv.hi (by rw [hO]; simp)
   refine ⟨_, M ++ [none], w', k1, k2, k3.step k3.ext (k3.inv.push k3.base (Ext.refl w') (Mn := [none]) (hn := [.pin c g sz ty]) rfl (by rw [hO]; simp) (by rw [hO]; simp) (by rw [hO]; simp) ?_) mv2 (fr_push k3.fr _) (fr_push k3.fh _)⟩
   intro j kb m hk hm
   cases j with
   | succ j => simp at hk
   | zero =>
    simp at hk
    subst hk
    rcases hpin' with hp | ⟨F, arr, q1, q2, q3⟩
    ·exact .inl hp
    ·exact .inr ⟨F, arr, get_app_left q1, q2, q3⟩
  ·exact plain H
 ·exact plain H
theorem partOps_mem : ∀ (ps : List (Nat × Operand)) (x : Operand), x ∈ partOps ps → ∃ i, (i, x) ∈ ps
 | (i, y) :: ps, x, h => by
  rcases List.mem_cons.1 h with rfl | h
  ·exact ⟨i, by simp⟩
  ·obtain ⟨j, hj⟩ := partOps_mem ps x h
   exact ⟨j, by simp [hj]⟩
theorem loud_sound (hT : TOk P tt) (R : Rep B X N M e h a w) {o : Oper} (hc : ∀ x ∈ o.op.operands, cOK x = true) {K : V → Env → List Blk → Prop} {dr : Bool} (H : loudV P tt dr o e h K) (Q : Exit → Act → World → Prop)
  (K' : Act → World → Prop) (hK : ∀ v cv e' h' M' w', K v e' h' → Rep B X N M' e' h' a w' → rep w' M' h' v cv → (isMod o = false → dr = true → Ext w w') → K' (a.put o.dst cv) w') : Oper.wp P o a w K' Q := by
 have hev : ∀ x ∈ o.op.operands, rep w M h (ev e x) (a.eval x) := fun x hx => ev_rep R.env x (hc x hx)
 obtain ⟨dst, op, type, pos, after, guard⟩ := o
 dsimp only at hc hev
 unfold loudV at H
 unfold Oper.wp
 cases op with
 | alloc t =>
  obtain ⟨v, cv, h', M', w', k1, k2, k3, k4, k5⟩ := alloc_sound hT R H
  simp only [execOp, Sem.run_bind, k2, Result.andThen_ok, Sem.run_pure, Oper.upon]
  exact hK _ _ _ _ _ _ k1 k4 k5 (fun _ _ => k3)
 | box t x =>
  obtain ⟨v, cv, h', M', w', k1, k2, k3, k4, k5⟩ := box_sound hT R (hev x (by simp [Op.operands])) H
  simp only [execOp, Sem.run_bind, k2, Result.andThen_ok, Sem.run_pure, Oper.upon]
  exact hK _ _ _ _ _ _ k1 k4 k5 (fun _ _ => k3)
 | store t p x =>
  cases hwh : isWhole (ev e p) (ev e x) with
  | false =>
   have H : storeO tt t (ev e p) (ev e x) h (fun h' => K .undef e h') := by
    have := H
    dsimp only at this
    rw [hwh] at this
    exact this
   obtain ⟨h', M', w', k1, k2, k3⟩ := storeO_sound hT R (hev p (by simp [Op.operands])) (hev x (by simp [Op.operands])) H
   simp only [execOp, Sem.run_bind, k2, Result.andThen_ok, Sem.run_pure, Oper.upon]
   exact hK _ _ _ _ _ _ k1 k3 rfl (fun q => by cases q)
  | true =>
   have H : setV tt t (ev e p) (ev e x) e h (fun e' h' => K .undef e' h') := by
    have := H
    dsimp only at this
    rw [hwh] at this
    exact this
   obtain ⟨e', h', M', w', k1, k2, k3⟩ := set_sound hT R (hev p (by simp [Op.operands])) (hev x (by simp [Op.operands])) H
   simp only [execOp, Sem.run_bind, k2, Result.andThen_ok, Sem.run_pure, Oper.upon]
   exact hK _ _ _ _ _ _ k1 k3 rfl (fun q => by cases q)
 | makeMap t r =>
  cases r with
  | some r => exact H.elim
  | none =>
   obtain ⟨v, cv, h', M', w', k1, k2, k3, k4, k5⟩ := makeMap_sound hT R H
   simp only [execOp, Sem.run_bind, Option.map_none, k2, Result.andThen_ok, Sem.run_pure, Oper.upon]
   exact hK _ _ _ _ _ _ k1 k4 k5 (fun _ _ => k3)
 | convert s d x =>
  obtain ⟨v, cv, h', M', w', k1, k2, k3, k4, k5⟩ := strB_sound hT R (hev x (by simp [Op.operands])) H
  simp only [execOp, Sem.run_bind, k2, Result.andThen_ok, Sem.run_pure, Oper.upon]
  exact hK _ _ _ _ _ _ k1 k4 k5 (fun _ _ => k3)
 | mapUpdate t m k x =>
  obtain ⟨h', w', k1, k2, k3⟩ := map_sound hT R (hev m (by simp [Op.operands])) (hev k (by simp [Op.operands])) (hev x (by simp [Op.operands])) H
  simp only [execOp, Sem.run_bind, k2, Result.andThen_ok, Sem.run_pure, Oper.upon]
  exact hK _ _ _ _ _ _ k1 k3 rfl (fun q => by cases q)
 | makeSlice t n c =>
  obtain ⟨v, cv, h', M', w', k1, k2, k3, k4, k5⟩ := make_sound hT R (hev n (by simp [Op.operands])) (hev c (by simp [Op.operands])) H
  simp only [execOp, Sem.run_bind, k2, Result.andThen_ok, Sem.run_pure, Oper.upon]
  exact hK _ _ _ _ _ _ k1 k4 k5 (fun _ _ => k3)
 | buildSlice t n ps =>
  obtain ⟨ps⟩ := ps
  obtain ⟨v, cv, e', h', M', w', k1, k2, k3, k4, k5⟩ := lit_sound hT R (fun x hx => hc x (by
   obtain ⟨i, hi⟩ := partOps_mem ps x hx
   simp only [Op.operands]
   simp only [List.mem_toArray, List.mem_map]
   exact ⟨(i, x), hi, rfl⟩)) H
  have k2' : (Instr.buildSlice t n (Array.map (fun (i, x) => (i, a.eval x)) ps.toArray)).run P w = .ok cv w' := by
   rw [← k2]; simp
  simp only [execOp, Sem.run_bind, k2', Result.andThen_ok, Sem.run_pure, Oper.upon]
  exact hK _ _ _ _ _ _ k1 k4 k5 (fun _ _ => k3)
 | build t ps =>
  obtain ⟨ps⟩ := ps
  obtain ⟨v, cv, k1, k2, k3⟩ := build_sound hT R (fun x hx => hc x (by
   obtain ⟨i, hi⟩ := partOps_mem ps x hx
   simp only [Op.operands]
   simp only [List.mem_toArray, List.mem_map]
   exact ⟨(i, x), hi, rfl⟩)) H
  have k2' : (Instr.build t (Array.map (fun (i, x) => (i, a.eval x)) ps.toArray)).run P w = .ok cv w := by
   rw [← k2]; simp
  simp only [execOp, Sem.run_bind, k2', Result.andThen_ok, Sem.run_pure, Oper.upon]
  exact hK _ _ _ _ _ _ k1 R k3 (fun _ _ => Ext.refl _)
 | call c =>
  obtain ⟨callee, args, ats⟩ := c
  obtain ⟨xs⟩ := args
  cases callee with
  | builtin b =>
   cases b <;> first
    | exact H.elim
    | skip
   obtain ⟨ats⟩ := ats
   rcases xs with _ | ⟨s, _ | ⟨x, _ | ⟨y, ys⟩⟩⟩ <;> first
    | exact H.elim
    | skip
   rcases ats with _ | ⟨t, _ | ⟨tx, _ | ⟨ty, ts⟩⟩⟩ <;> first
    | exact H.elim
    | skip
   obtain ⟨v, cv, e', h', M', w', k1, k2, k3, k4⟩ := appW_sound (P := P) (ty := type) hT R (hev s (by simp [Op.operands, Call.operands])) (hev x (by simp [Op.operands, Call.operands])) H
   have hexec : (execOp a.eval ⟨dst, .call { callee := .builtin .append, args := ⟨[s, x]⟩, argTypes := ⟨[t, tx]⟩ }, type, pos, after, guard⟩).run P w = .ok (.value cv) w' := by
    simp [execOp, resolve, invoke, builtin, k2]
   rw [hexec]
   exact hK _ _ _ _ _ _ k1 k3 k4 (fun q => by cases q)
  | invoke f => exact H.elim
  | value f =>
   dsimp only at H
   have hf := hev f (by simp [Op.operands, Call.operands])
   generalize hmo : isMod ⟨dst, .call { callee := .value f, args := ⟨xs⟩, argTypes := ats }, type, pos, after, guard⟩ = mo at H hK
   have key : ∀ (fid : FuncId) (caps : List V), rep w M h (.fn (.func fid) caps) (a.eval f) → (bif okTs (evs e xs) && capsOK caps then CallW P (dr && !mo) fid (evs e xs ++ caps) e h K else False) →
     Oper.wp P ⟨dst, .call { callee := .value f, args := ⟨xs⟩, argTypes := ats }, type, pos, after, guard⟩ a w K' Q := by
    intro fid caps hf H
    unfold Oper.wp
    cases hok : (okTs (evs e xs) && capsOK caps) with
    | false => rw [hok] at H; exact H.elim
    | true =>
     rw [hok] at H
     simp only [Bool.and_eq_true] at hok
     simp only [cond_true] at H
     obtain ⟨cvs, e1, hcaps⟩ := rep_fn.1 hf
     obtain ⟨⟨fn, f1, f2, f3⟩, hcall⟩ := callW_sound R (repT_app _ _ _ _ (evs_repT R xs (fun x hx => hc x (by simp [Op.operands, Call.operands, hx])) hok.1) (repT_caps caps cvs hok.2 hcaps)) H
     have hexec : (execOp a.eval ⟨dst, .call { callee := .value f, args := ⟨xs⟩, argTypes := ats }, type, pos, after, guard⟩).run P w = .ok (.enter fid (xs.map a.eval ++ cvs).toArray) w := by
      have hcf : ∀ args, (callFunc fid args).run P w = .ok (.enter fid args) w := fun args => by
       unfold callFunc
       simp only [Sem.run_bind, run_program, Result.andThen_ok, f1, f2, f3, Bool.false_eq_true, if_false, Sem.run_pure]
      simp only [execOp, resolve, e1, Deferred.ofValue, invoke, Sem.run_bind, Sem.run_pure, Result.andThen_ok, hcf]
      simp
     rw [hexec]
     show Calls _ _ _ _ _
     refine hcall.mono ?_
     rintro en w' ⟨v, cv, e', h', M', rfl, k1, k2, k3, k4⟩
     exact hK _ _ _ _ _ _ k1 k3 k4 (fun q1 q2 => k2 (by rw [q1, q2]; rfl))
   split at H
   ·rename_i fid caps hq
    rw [hq] at hf
    exact key fid caps hf H
   ·rename_i fid hq
    rw [hq] at hf
    have e1 : a.eval f = .func (.func fid) #[] #[] := by
     have hf : rep1 w M h (.d (.fnv (.func fid))) (a.eval f) := hf
     unfold rep1 at hf
     rw [if_neg (by simp [V.isAgg, D.agg])] at hf
     have : [a.eval f] = [Value.func (.func fid) #[] #[]] := hf
     simpa using this
    refine key fid [] (rep_fn.2 ⟨[], e1, rfl⟩) ?_
    simpa [capsOK] using H
   ·exact H.elim
 | _ => exact H.elim
end
end Go.Proofs.YtpdeibhedafcfaaGreatDoor
/- The abstract machine: make and slice literals. Leans on no program. -/
import Derived.Test.YtdeafbgnbgihgaaVMTake
set_option linter.unusedSimpArgs false
set_option linter.unusedVariables false
namespace Go.Proofs.Ytdeafbgnbgihgaa
open Go.RowKit

theorem set_last {α : Type} (h : List α) (x y : α) : (h ++ [x]).set h.length y = h ++ [y] := by
  induction h with
  | nil => rfl
  | cons a h ih => simp [ih]

def makeV (tt : TT) (t : Nat) (len cap : V) (h : List Blk) (K : V → List Blk → Prop) : Prop :=
  match tt t, len, cap with
  | some { kind := .sl e, .. }, .d (.int .i64 n), .d (.int .i64 c) => match tt e with
    | some ie => match zD ie.zero with
      | some z => MkW n c ie.bytes fun k => K (.own h.length 0 k) (h ++ [.arr ie.size (List.replicate k z) true])
      | none => False
    | none => False
  | _, _, _ => False

/-- literals -/
def inOrd : List (Nat × Operand) → Nat → Bool
  | [], _ => true
  | (i, _) :: ps, j => Nat.beq i j && inOrd ps (j + 1)
def partOps : List (Nat × Operand) → List Operand
  | [] => []
  | (_, x) :: ps => x :: partOps ps
def sizesB (n : Nat) : List V → Bool
  | [] => true
  | v :: vs => v.okc && Nat.beq v.size n && sizesB n vs
mutual
def V.tkB : V → Bool
  | .d x => x.flat
  | .nils => true
  | .own _ _ _ => true
  | .st fs => V.tksB fs
  | .top => false
  | .undef => false
  | .nilp => false
  | .pB _ _ _ => false
  | .pL _ _ _ _ => false
  | .pX _ => false
  | .fn _ _ => false
  | .tup _ => false
def V.tksB : List V → Bool
  | [] => true
  | v :: vs => v.tkB && V.tksB vs
end
def ownIs : List V → List Nat
  | [] => []
  | .own b _ _ :: vs => b :: ownIs vs
  | _ :: vs => ownIs vs
def exDs : List V → Option (List D)
  | [] => some []
  | .d x :: vs => match exDs vs with
    | some ys => some (x :: ys)
    | none => none
  | _ :: _ => none
def litV (tt : TT) (t len : Nat) (parts : List (Nat × Operand)) (e : Env) (h : List Blk) (K : V → Env → List Blk → Prop) : Prop :=
  match tt t with
  | some { kind := .sl el, .. } => match tt el with
    | some ie => bif inOrd parts 0 && Nat.beq parts.length len && Nat.ble (len * ie.size) 16777216 && sizesB ie.size (evs e (partOps parts)) && Nat.ble 1 ie.size then
        (bif V.tksB (evs e (partOps parts)) && nodupB (ownIs (evs e (partOps parts))) then tkVs h (evs e (partOps parts)) fun ys is => bif nodupB is then K (.own h.length 0 len) (dropE is e) ((goneL is (dropK is (h ++ [.gone]))).set h.length (.arr ie.size ys true)) else False
        else match exDs (evs e (partOps parts)) with
          | some ys => K (.own h.length 0 len) e (h ++ [.arr ie.size ys false])
          | none => bif Nat.beq ie.size 1 then K (.own h.length 0 len) e (h ++ [.box (.st (evs e (partOps parts)))]) else False)
      else False
    | none => False
  | _ => False

theorem rep_live {h : List Blk} {is : List Nat} (H : ∀ i ∈ is, ∃ n xs, h[i]? = some (Blk.arr n xs true)) : ∀ i ∈ is, ∃ k, h[i]? = some k ∧ k.live = true := fun i hi => by
  obtain ⟨n, xs, hk⟩ := H i hi
  exact ⟨_, hk, rfl⟩
section
variable {P : Program} {tt : TT} {B : World} {X : List Nat} {N : Nat} {M : MM} {e : Env} {h : List Blk} {a : Act} {w : World}
theorem make_sound (hT : TOk P tt) (R : Rep B X N M e h a w) {t : Nat} {len cap : V} {cl cc : Value} (hl : rep w M h len cl) (hc : rep w M h cap cc) {K : V → List Blk → Prop} (H : makeV tt t len cap h K) :
    ∃ v cv h' M' w', K v h' ∧ (Instr.makeSlice t cl cc).run P w = .ok cv w' ∧ Ext w w' ∧ Rep B X N M' e h' a w' ∧ rep w' M' h' v cv := by
  unfold makeV at H
  split at H
  · rename_i el sz by' zr eq0 n c hti
    obtain ⟨fi, d, z, h1, h2, h3, h4, h5, h6, h7, h8, h9⟩ := (hT t _ hti).ex
    cases d <;> first
      | exact (h6 : False).elim
      | skip
    cases (h6 : _ = el)
    split at H
    · rename_i ie hie
      obtain ⟨fe, de, ze, e1, e2, e3, e4, e5, e6, e7, e8, e9⟩ := (hT _ _ hie).ex
      split at H
      · rename_i zd hz
        obtain ⟨⟨k1, k2, k3, H⟩⟩ := H
        obtain ⟨rfl, i1⟩ := rep_int.1 hl
        obtain ⟨rfl, i2⟩ := rep_int.1 hc
        have zr1 := rep1_cells (e7 w M h)
        obtain ⟨z1, z2⟩ := zD_own _ zd _ hz zr1
        have zsz : ze.cells.toList.length = ie.size := by rw [Array.length_toList]; exact e8
        have zds : zd.size = ie.size := by
          rw [z2, ← repC_len _ _ zr1, zsz]
        have hw1 : IntKind.i64.wrap n = n := IntWalk.i64_in _ (by have := i1.1; have := i1.2; simp only [IntKind.min, IntKind.max, IntKind.bits, IntKind.signed, if_true] at *; omega)
        have hw2 : IntKind.i64.wrap c = c := IntWalk.i64_in _ (by have := i2.1; have := i2.2; simp only [IntKind.min, IntKind.max, IntKind.bits, IntKind.signed, if_true] at *; omega)
        have hcm : c.toNat ≤ maxLen := by
          have := i2.2
          simp only [IntKind.max, IntKind.bits, IntKind.signed, if_true] at this
          unfold maxLen
          omega
        let arr : Array Value := (Array.range (c.toNat * ie.size)).map (ze.cells[· % ze.cells.size]!)
        have hat : ∀ k j, k < c.toNat → j < ie.size → arr[k * ie.size + j]? = ze.cells[j]? := fun k j hk hj => by
          have hlt : k * ie.size + j < c.toNat * ie.size := by
            have := Nat.mul_le_mul_right ie.size (Nat.succ_le_of_lt hk)
            rw [Nat.succ_mul] at this
            omega
          have hm : (k * ie.size + j) % ze.cells.size = j := by
            rw [e8, Nat.add_comm, Nat.add_mul_mod_self_right, Nat.mod_eq_of_lt hj]
          have hj' : j < ze.cells.size := by omega
          simp [arr, hlt, hm, hj']
        have hown : ∀ (m i : Nat), i + m ≤ c.toNat → ownDe w arr ie.size (List.replicate m zd) i [] := by
          intro m
          induction m with
          | zero => intro i _; rfl
          | succ m ih =>
            intro i hi
            refine ⟨[], [], ze.cells.toList, rfl, zds, fun j v hj => ?_, z1, ih (i + 1) (by omega)⟩
            have hjl : j < ie.size := by rw [← zsz]; exact (List.getElem?_eq_some_iff.1 hj).1
            rw [hat i j (by omega) hjl, ← Array.getElem?_toList]
            exact hj
        obtain ⟨M', R', hv⟩ := R.newRow (arr := arr) (t := el) (n := ie.size) (cap := c.toNat) (xs := List.replicate n.toNat zd) (dp := true) (is := []) (ks := []) (F := []) (w1 := w) (Ext.refl w) rfl (by simp [arr]) (by simp; omega) hcm (by simp) (by simp) (by simp) (by simp)
          (by rw [if_pos rfl]; exact hown n.toNat 0 (by omega))
        simp only [dropE, dropK, goneL, set_last, List.length_replicate] at R' hv
        refine ⟨_, _, _, M', _, H, ?_, ext_alloc w _, R', hv⟩
        have t1 : ¬ (c < 0 ∨ 2 ^ 48 < ie.bytes * c) := by omega
        simp only [Instr.makeSlice, Sem.run_bind, run_underlying h5, Result.andThen_ok, asInt, asIntOf, Sem.run_pure, typeInfo, run_program, e1, hw1, hw2, e3]
        rw [if_neg]
        · simp only [Sem.run_bind, run_askRoom, Result.andThen_ok, sizeOf, typeInfo, run_program, e1, Sem.run_pure, e2, zeroValue, e4]
          by_cases h0 : c.toNat * ie.size = 0
          · simp only [h0, if_true, Sem.run_pure, Result.andThen_ok, newRow, Sem.run_bind, run_newObj]
            have : arr = #[] := by
              apply Array.eq_empty_of_size_eq_zero
              simp [arr, h0]
            rw [this]
            have hr0 : Array.range 0 = #[] := rfl
            simp [World.alloc_eq, hr0]
            try rfl
          · simp only [h0, if_false, Sem.run_bind, run_program, Result.andThen_ok, e1, Sem.run_pure, e4, newRow, run_newObj]
            rfl
        · simp only [Bool.or_eq_true, decide_eq_true_eq, gt_iff_lt, not_or]
          refine ⟨⟨?_, by omega⟩, by omega⟩
          omega
      · exact H.elim
    · exact H.elim
  · exact H.elim

theorem evs_repC (R : Rep B X N M e h a w) {n : Nat} : ∀ (xs : List Operand), (∀ x ∈ xs, cOK x = true) → sizesB n (evs e xs) = true →
    ∃ css : List (List Value), (xs.map a.eval).map (fun v => v.cells.toList) = css ∧ (∀ cs ∈ css, cs.length = n) ∧ repCs w M h (evs e xs) css.flatten
  | [], _, _ => ⟨[], rfl, by simp, rfl⟩
  | x :: xs, hc, hs => by
    simp only [evs, sizesB, Bool.and_eq_true, nbeq] at hs
    obtain ⟨css, k1, k2, k3⟩ := evs_repC R xs (fun y hy => hc y (by simp [hy])) hs.2
    have h1 := rep1_cells (rep1_of_rep hs.1.1 (ev_rep R.env x (hc x (by simp))))
    refine ⟨(a.eval x).cells.toList :: css, by simp [k1], fun cs hm => ?_, ⟨_, _, rfl, h1, k3⟩⟩
    rcases List.mem_cons.1 hm with rfl | hm
    · rw [repC_len _ _ h1]; exact hs.1.2
    · exact k2 cs hm
theorem fill_row {n : Nat} : ∀ (vs : List Value) (j : Nat) (done : List Value) (rest : List Value) (zs : List Value), done.length = j * n → (∀ v ∈ vs, v.cells.size = n) → zs.length = vs.length * n →
    Instr.fill (fun i => some (i * n, n)) (done ++ zs ++ rest).toArray ((List.range' j vs.length).zip vs) = some (done ++ (vs.map fun v => v.cells.toList).flatten ++ rest).toArray
  | [], j, done, rest, zs, hd, _, hz => by
    have : zs = [] := List.eq_nil_of_length_eq_zero (by simpa using hz)
    subst this
    simp [Instr.fill]
  | v :: vs, j, done, rest, zs, hd, hs, hz => by
    have hv := hs v (by simp)
    have hvl : v.cells.toList.length = n := by rw [Array.length_toList, hv]
    simp only [List.length_cons, Nat.succ_mul] at hz
    simp only [List.length_cons, List.range'_succ, List.zip_cons_cons, Instr.fill]
    rw [if_neg]
    · have hput : ∀ (cs : List Value) (k : Nat) (d z r : List Value), d.length = j * n + k → z.length = cs.length → (cs.zipIdx k).foldl (fun (acc : Array Value) (p : Value × Nat) => acc.setIfInBounds (j * n + p.2) p.1) (d ++ z ++ r).toArray = (d ++ cs ++ r).toArray := by
        intro cs
        induction cs with
        | nil => intro k d z r _ hz; have : z = [] := List.eq_nil_of_length_eq_zero (by simpa using hz); subst this; simp
        | cons c cs ih =>
          intro k d z r hd hz
          cases z with
          | nil => simp at hz
          | cons z0 z =>
            simp only [List.zipIdx_cons, List.foldl_cons]
            have : (d ++ (z0 :: z) ++ r).toArray.setIfInBounds (j * n + k) c = ((d ++ [c]) ++ z ++ r).toArray := by
              apply Array.ext'
              simp only [Array.toList_setIfInBounds, List.append_assoc]
              rw [← hd]
              simp
            rw [this, ih (k + 1) (d ++ [c]) z r (by simp [hd]; omega) (by simpa using hz)]
            simp
      have hsplit : zs = zs.take n ++ zs.drop n := (List.take_append_drop n zs).symm
      have e1 : v.cells.zipIdx.foldl (fun cs (x : Value × Nat) => cs.setIfInBounds (j * n + x.2) x.1) (done ++ zs ++ rest).toArray = (done ++ v.cells.toList ++ (zs.drop n ++ rest)).toArray := by
        rw [← Array.foldl_toList, Array.toList_zipIdx]
        have := hput v.cells.toList 0 done (zs.take n) (zs.drop n ++ rest) (by simpa using hd) (by rw [List.length_take, hvl]; omega)
        have es : done ++ zs.take n ++ (zs.drop n ++ rest) = done ++ zs ++ rest := by
          simp only [List.append_assoc]
          rw [← List.append_assoc (zs.take n), List.take_append_drop]
        rw [es] at this
        exact this
      have e2 := fill_row vs (j + 1) (done ++ v.cells.toList) rest (zs.drop n) (by rw [List.length_append, hvl, hd, Nat.succ_mul]) (fun u hu => hs u (by simp [hu])) (by rw [List.length_drop]; omega)
      have e3 : (done ++ v.cells.toList ++ (zs.drop n ++ rest)) = (done ++ v.cells.toList ++ zs.drop n ++ rest) := by simp
      rw [e3] at e1
      have e4 : (v.cells.zipIdx.foldl (fun cs (x : Value × Nat) => match x with | (c, k) => cs.setIfInBounds (j * n + k) c) (done ++ zs ++ rest).toArray) = (done ++ v.cells.toList ++ zs.drop n ++ rest).toArray := e1
      rw [e4, e2]
      simp
    · simp only [Bool.or_eq_true, decide_eq_true_eq, ne_eq, not_or, Decidable.not_not, gt_iff_lt]
      refine ⟨hv, ?_⟩
      simp only [List.size_toArray, List.length_append]
      omega

theorem ownDs_row {n : Nat} : ∀ (ys : List D) (css : List (List Value)) (F : List Nat), (∀ cs ∈ css, cs.length = n) → (∀ y ∈ ys, y.size = n) → ownDs w ys F css.flatten → ys.length = css.length → ownDe w css.flatten.toArray n ys 0 F
  | [], css, F, _, _, H, hl => by
    cases css with
    | nil => exact H.1
    | cons _ _ => simp at hl
  | y :: ys, [], F, _, _, _, hl => by simp at hl
  | y :: ys, cs :: css, F, hc, hs, H, hl => by
    obtain ⟨F1, F2, c1, c2, rfl, e, h1, h2⟩ := H
    have l1 := repD_len y c1 (ownD_rep (O := []) y F1 c1 (by simp) h1)
    have l2 := hs y (by simp)
    have l3 := hc cs (by simp)
    rw [List.flatten_cons] at e
    obtain ⟨rfl, rfl⟩ := List.append_inj e.symm (by omega)
    have ih := ownDs_row ys css F2 (fun c hm => hc c (by simp [hm])) (fun z hm => hs z (by simp [hm])) h2 (by simpa using hl)
    refine ⟨F1, F2, c1, rfl, l2, fun j v hj => ?_, h1, ?_⟩
    · have hlt : j < c1.length := (List.getElem?_eq_some_iff.1 hj).1
      simp [List.getElem?_append_left hlt, hj]
    · refine ownDe_at ys 0 1 F2 (fun k hk j hj => ?_) ih
      simp only [List.getElem?_toArray, List.flatten_cons]
      rw [Nat.zero_add, List.getElem?_append_right (by rw [Nat.add_mul]; omega)]
      congr 1
      rw [Nat.add_mul]; omega
theorem ext_row {O : List Nat} {n : Nat} : ∀ (ys : List D) (css : List (List Value)), (∀ cs ∈ css, cs.length = n) → (∀ y ∈ ys, y.size = n) → repDs O w ys css.flatten → ys.length = css.length → extDe O w css.flatten.toArray n ys 0
  | [], css, _, _, H, hl => trivial
  | y :: ys, [], _, _, _, hl => by simp at hl
  | y :: ys, cs :: css, hc, hs, H, hl => by
    obtain ⟨c1, c2, e, h1, h2⟩ := H
    have l1 := repD_len y c1 h1
    have l2 := hs y (by simp)
    have l3 := hc cs (by simp)
    rw [List.flatten_cons] at e
    obtain ⟨rfl, rfl⟩ := List.append_inj e.symm (by omega)
    have ih := ext_row ys css (fun c hm => hc c (by simp [hm])) (fun z hm => hs z (by simp [hm])) h2 (by simpa using hl)
    refine ⟨⟨c1, l2, fun j v hj => ?_, h1⟩, ?_⟩
    · have hlt : j < c1.length := (List.getElem?_eq_some_iff.1 hj).1
      simp [List.getElem?_append_left hlt, hj]
    · refine extDe_at ys 0 1 (fun k hk j hj => ?_) ih
      simp only [List.getElem?_toArray, List.flatten_cons]
      rw [Nat.zero_add, List.getElem?_append_right (by rw [Nat.add_mul]; omega)]
      congr 1
      rw [Nat.add_mul]; omega
theorem exDs_rep : ∀ (vs : List V) (ys : List D) (cs : List Value), exDs vs = some ys → repCs w M h vs cs → repDs M.O w ys cs ∧ ys.length = vs.length
  | [], ys, cs, H, R => by cases H; exact ⟨R, rfl⟩
  | v :: vs, ys, cs, H, R => by
    cases v <;> simp only [exDs] at H <;> first
      | (cases H; done)
      | skip
    rename_i x
    split at H
    · rename_i ys' hy
      cases H
      obtain ⟨c1, c2, e, r1, r2⟩ := R
      obtain ⟨k1, k2⟩ := exDs_rep vs ys' c2 hy r2
      exact ⟨⟨c1, c2, e, r1, k1⟩, by simp [k2]⟩
    · cases H
theorem exDs_size {n : Nat} : ∀ (vs : List V) (ys : List D), exDs vs = some ys → sizesB n vs = true → ∀ y ∈ ys, y.size = n
  | [], ys, H, _ => by cases H; simp
  | v :: vs, ys, H, hs => by
    cases v <;> simp only [exDs] at H <;> first
      | (cases H; done)
      | skip
    rename_i x
    split at H
    · rename_i ys' hy
      cases H
      simp only [sizesB, Bool.and_eq_true, nbeq] at hs
      intro y hm
      rcases List.mem_cons.1 hm with rfl | hm
      · exact hs.1.2
      · exact exDs_size vs ys' hy hs.2 y hm
    · cases H
theorem tks_sizes {B : Nat} {n : Nat} (hI : MInv B w M h) : ∀ (vs : List V) (css : List (List Value)) (K : List D → List Nat → Prop), tkVs h vs K → repCs w M h vs css.flatten → sizesB n vs = true → (∀ cs ∈ css, cs.length = n) → vs.length = css.length →
    ∃ ys is F, K ys is ∧ ownDs w ys F css.flatten ∧ (∀ y ∈ ys, y.size = n) ∧ ys.length = vs.length ∧ (is.Nodup → F.Nodup) ∧ (∀ x ∈ F, ∃ i ∈ is, ∃ m, M[i]? = some m ∧ x ∈ mO m) ∧ (∀ i ∈ is, ∃ n xs, h[i]? = some (.arr n xs true)) := by
  intro vs css K H R hs hc hl
  have key : ∀ (vs : List V) (cs : List Value) (K : List D → List Nat → Prop), tkVs h vs K → repCs w M h vs cs → sizesB n vs = true →
      ∃ ys is F, K ys is ∧ ownDs w ys F cs ∧ (∀ y ∈ ys, y.size = n) ∧ ys.length = vs.length ∧ (is.Nodup → F.Nodup) ∧ (∀ x ∈ F, ∃ i ∈ is, ∃ m, M[i]? = some m ∧ x ∈ mO m) ∧ (∀ i ∈ is, ∃ n xs, h[i]? = some (.arr n xs true)) := by
    intro vs
    induction vs with
    | nil => intro cs K H R _; exact ⟨[], [], [], H, ⟨rfl, R⟩, by simp, rfl, fun _ => by simp, by simp, by simp⟩
    | cons v vs ih =>
      intro cs K H R hs
      simp only [sizesB, Bool.and_eq_true, nbeq] at hs
      obtain ⟨c1, c2, e, r1, r2⟩ := R
      obtain ⟨y, i1, F1, H1, k2, k3, k4, k5, k6⟩ := tk_sound hI v c1 _ H r1
      obtain ⟨ys, i2, F2, H2, l2, l3, ln, l4, l5, l6⟩ := ih c2 _ H1 r2 hs.2
      refine ⟨y :: ys, i1 ++ i2, F1 ++ F2, H2, ⟨F1, F2, c1, c2, rfl, e, k2, l2⟩, fun z hz => ?_, by simp [ln], fun hn => ?_, fun x hx => ?_, fun i hi => ?_⟩
      · rcases List.mem_cons.1 hz with rfl | hz
        · rw [k3]; exact hs.1.2
        · exact l3 z hz
      · obtain ⟨n1, n2, n3⟩ := List.nodup_append.1 hn
        refine List.nodup_append.2 ⟨k4 n1, l4 n2, fun x hx y hy e => ?_⟩
        subst e
        obtain ⟨i, hi, m, hm, hxm⟩ := k5 x hx
        obtain ⟨j, hj, m', hm', hxm'⟩ := l5 x hy
        have := O_block_inj hI hm hm' hxm hxm'
        subst this
        exact n3 _ hi _ hj rfl
      · rcases List.mem_append.1 hx with hx | hx
        · obtain ⟨i, hi, r⟩ := k5 x hx
          exact ⟨i, by simp [hi], r⟩
        · obtain ⟨i, hi, r⟩ := l5 x hx
          exact ⟨i, by simp [hi], r⟩
      · rcases List.mem_append.1 hi with hi | hi
        · exact k6 i hi
        · exact l6 i hi
  exact key vs _ K H R hs
theorem parts_zip : ∀ (ps : List (Nat × Operand)) (j : Nat), inOrd ps j = true → ps.map (fun (i, x) => (i, a.eval x)) = (List.range' j ps.length).zip ((partOps ps).map a.eval)
  | [], j, _ => rfl
  | (i, x) :: ps, j, H => by
    simp only [inOrd, Bool.and_eq_true, nbeq] at H
    simp only [List.map_cons, partOps, List.length_cons, List.range'_succ, List.zip_cons_cons, H.1, parts_zip ps (j + 1) H.2]
theorem partOps_len : ∀ ps : List (Nat × Operand), (partOps ps).length = ps.length
  | [] => rfl
  | (_, _) :: ps => by simp [partOps, partOps_len ps]
theorem evs_len (e : Env) : ∀ xs : List Operand, (evs e xs).length = xs.length
  | [] => rfl
  | x :: xs => by simp [evs, evs_len e xs]
theorem lit_sound (hT : TOk P tt) (R : Rep B X N M e h a w) {t len : Nat} {ps : List (Nat × Operand)} (hc : ∀ x ∈ partOps ps, cOK x = true) {K : V → Env → List Blk → Prop} (H : litV tt t len ps e h K) :
    ∃ v cv e' h' M' w', K v e' h' ∧ (Instr.buildSlice t len (ps.map fun (i, x) => (i, a.eval x)).toArray).run P w = .ok cv w' ∧ Ext w w' ∧ Rep B X N M' e' h' a w' ∧ rep w' M' h' v cv := by
  unfold litV at H
  split at H
  · rename_i el sz by' zr eq0 hti
    obtain ⟨fi, d, z, h1, h2, h3, h4, h5, h6, h7, h8, h9⟩ := (hT t _ hti).ex
    cases d <;> first
      | exact (h6 : False).elim
      | skip
    cases (h6 : _ = el)
    split at H
    · rename_i ie hie
      obtain ⟨fe, de, ze, e1, e2, e3, e4, e5, e6, e7, e8, e9⟩ := (hT _ _ hie).ex
      cases hq : (inOrd ps 0 && Nat.beq ps.length len && Nat.ble (len * ie.size) 16777216 && sizesB ie.size (evs e (partOps ps)) && Nat.ble 1 ie.size) with
      | false => rw [hq] at H; exact H.elim
      | true =>
        rw [hq] at H
        simp only [Bool.and_eq_true, nbeq] at hq
        obtain ⟨⟨⟨⟨q1, rfl⟩, q3⟩, q4⟩, q5⟩ := hq
        have q3' := Nat.le_of_ble_eq_true q3
        obtain ⟨css, c1, c2, c3⟩ := evs_repC R (partOps ps) hc q4
        have hcl : css.length = ps.length := by rw [← c1]; simp [partOps_len]
        have hfl : ∀ css : List (List Value), (∀ cs ∈ css, cs.length = ie.size) → css.flatten.length = css.length * ie.size := by
          intro css
          induction css with
          | nil => simp
          | cons c css ih => intro hh; simp [ih (fun x hx => hh x (by simp [hx])), hh c (by simp), Nat.succ_mul]; omega
        have hfl' := hfl css c2
        -- the run
        have hrun : (Instr.buildSlice t ps.length (ps.map fun (i, x) => (i, a.eval x)).toArray).run P w = .ok (.slice (some ⟨w.heap.size, 0, none⟩) ps.length ps.length) (w.alloc (.cells css.flatten.toArray el)) := by
          have hfill := fill_row (n := ie.size) ((partOps ps).map a.eval) 0 [] [] ((List.range (ps.length * ie.size)).map fun i => ze.cells[i % ze.cells.size]!) (by simp) (fun v hv => by
            have : v.cells.toList ∈ css := by rw [← c1]; exact List.mem_map_of_mem hv
            have := c2 _ this
            rw [Array.length_toList] at this
            exact this) (by simp [partOps_len])
          rw [List.length_map, partOps_len, ← parts_zip ps 0 q1] at hfill
          rw [c1] at hfill
          simp only [List.nil_append, List.append_nil] at hfill
          have hz : ((Array.range (ps.length * ie.size)).map (ze.cells[· % ze.cells.size]!)) = ((List.range (ps.length * ie.size)).map fun i => ze.cells[i % ze.cells.size]!).toArray := by
            apply Array.ext'
            simp
          have hlim : ¬ (ps.length * ie.size > 2 ^ 24) := by omega
          simp only [Instr.buildSlice, Sem.run_bind, run_underlying h5, Result.andThen_ok, sizeOf, typeInfo, run_program, e1, Sem.run_pure, e2, hlim, if_false]
          by_cases h0 : ps.length * ie.size = 0
          · have hcs : css.flatten = [] := List.eq_nil_of_length_eq_zero (by rw [hfl', hcl, h0])
            have hp : ps = [] := by
              have h1 : 1 ≤ ie.size := Nat.le_of_ble_eq_true q5
              have : ps.length = 0 := by
                rcases Nat.mul_eq_zero.1 h0 with h | h
                · exact h
                · omega
              exact List.eq_nil_of_length_eq_zero this
            subst hp
            have hr0 : Array.range 0 = #[] := rfl
            simp [hcs, hr0, Instr.fill, newRow, World.alloc_eq]
          · simp only [h0, if_false, zeroValue, typeInfo, Sem.run_bind, run_program, Result.andThen_ok, e1, Sem.run_pure, e4]
            rw [hz, hfill]
            simp only [newRow, Sem.run_bind, run_newObj, Result.andThen_ok, Sem.run_pure]
            rfl
        have hev : (evs e (partOps ps)).length = css.length := by rw [evs_len, partOps_len, hcl]
        have hcap : ps.length ≤ maxLen := by
          rcases Nat.eq_zero_or_pos ie.size with h0 | h0
          · exact absurd h0 (fun e => by rw [e] at q5; cases q5)
          · have : ps.length * 1 ≤ ps.length * ie.size := Nat.mul_le_mul_left _ h0
            unfold maxLen
            omega
        simp only [cond_true] at H
        cases ht : (V.tksB (evs e (partOps ps)) && nodupB (ownIs (evs e (partOps ps)))) with
        | true =>
          rw [ht] at H
          simp only [Bool.and_eq_true] at ht
          simp only [cond_true] at H
          obtain ⟨ys, is, F, k1, k2, k3, kn, k4, k5, k6⟩ := tks_sizes R.inv _ css _ H c3 q4 c2 hev
          cases hn : nodupB is with
          | false => rw [hn] at k1; exact k1.elim
          | true =>
            rw [hn] at k1
            have hrow := ownDs_row ys css F c2 k3 k2 (by rw [kn, hev])
            have hyl : ys.length = ps.length := by rw [kn, hev, hcl]
            obtain ⟨M', R', hv⟩ := R.newRow (arr := css.flatten.toArray) (t := el) (n := ie.size) (cap := ps.length) (xs := ys) (dp := true) (is := is) (ks := is) (F := F) (w1 := w) (Ext.refl w) rfl (by rw [List.size_toArray, hfl', hcl]) (by omega) hcap (fun i hi => hi) (k4 (nodupB_spec is hn)) k5 (rep_live k6)
              (by rw [if_pos rfl]; exact hrow)
            rw [hyl] at hv
            exact ⟨_, _, _, _, M', _, k1, hrun, ext_alloc w _, R', hv⟩
        | false =>
          rw [ht] at H
          simp only [cond_false] at H
          split at H
          · rename_i ys hys
            obtain ⟨k1, k2⟩ := exDs_rep _ ys _ hys c3
            have hrow := ext_row ys css c2 (exDs_size _ ys hys q4) k1 (by rw [k2, hev])
            have hyl : ys.length = ps.length := by rw [k2, hev, hcl]
            obtain ⟨M', R', hv⟩ := R.newRow (arr := css.flatten.toArray) (t := el) (n := ie.size) (cap := ps.length) (xs := ys) (dp := false) (is := []) (ks := []) (F := []) (w1 := w) (Ext.refl w) rfl (by rw [List.size_toArray, hfl', hcl]) (by omega) hcap (by simp) (by simp) (by simp) (by simp)
              (by rw [if_neg (by simp)]; exact ⟨rfl, hrow⟩)
            simp only [dropE, dropK, goneL, set_last] at R' hv
            rw [hyl] at hv
            exact ⟨_, _, _, _, M', _, H, hrun, ext_alloc w _, R', hv⟩
          · cases hb : Nat.beq ie.size 1 with
            | false => rw [hb] at H; exact H.elim
            | true =>
              rw [hb] at H
              simp only [cond_true] at H
              obtain ⟨hI, mv⟩ := push_box (v := .st (evs e (partOps ps))) (t := el) R.inv R.base (by simp only [repC]; exact c3)
              have hnf : nOf (h ++ [Blk.box (.st (evs e (partOps ps)))]) h.length = 0 := by simp [nOf]
              refine ⟨_, _, _, _, _, _, H, hrun, ext_alloc w _, R.step (R.ext.alloc _) hI mv (fr_push R.fr _) (fr_push R.fh _), rep_own.2 ⟨_, ps.length, rfl, Nat.le_refl _, hcap, by simp, .inr ⟨w.heap.size, [], css.flatten.toArray, el, ?_, ?_, heap_new w _, ?_⟩⟩⟩
              · rw [← R.inv.len, List.getElem?_append_right (Nat.le_refl _)]; simp
              · simp
              · rw [hnf]; omega
    · exact H.elim
  · exact H.elim
end
end Go.Proofs.Ytdeafbgnbgihgaa

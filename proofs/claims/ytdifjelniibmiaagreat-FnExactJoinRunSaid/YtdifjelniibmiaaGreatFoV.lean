/- The forms of the items of a run: both sides, by the machine. -/
import Derived.Test.YtdifjelniibmiaaGreatFoP
import Derived.Test.YtdifjelniibmiaaGreatJoV
import Derived.Test.YtdifjelniibmiaaGreatLVBase
import Derived.Test.YtdifjelniibmiaaGreatApV
import Derived.Test.YtdifjelniibmiaaGreatApW
set_option linter.unusedSimpArgs false
set_option linter.unusedVariables false
namespace Go.Proofs.YtdifjelniibmiaaGreat
open Go.RowKit
def joL (f : TFeatures) (xs : List TItem) : List TJoin := xs.map fun x => jnD f x.fGlyph
def ksL (f : TFeatures) (xs : List TItem) : List Int := (joL f xs).map (·.fKind)
theorem joL_at {f : TFeatures} {xs : List TItem} {k : Nat} {x : TItem} (hx : xs[k]? = some x) : (joL f xs)[k]? = some (jnD f x.fGlyph) := by rw [joL, List.getElem?_map, hx]; rfl
theorem ksL_at {f : TFeatures} {xs : List TItem} {k : Nat} {x : TItem} (hx : xs[k]? = some x) : (ksL f xs)[k]? = some (jnD f x.fGlyph).fKind := by rw [ksL, List.getElem?_map, joL_at hx]; rfl
theorem set_mid {α : Type} (F R : List α) (z v : α) : (F ++ z :: R).set F.length v = F ++ v :: R := by
  rw [List.set_append_right _ _ (Nat.le_refl _), Nat.sub_self, List.set_cons_zero]
/-- the forms of the first k items, the rest not yet told -/
def fok (ks : List Int) (k : Nat) : List Int := formsG 0 (ks.take k) ++ List.replicate (ks.length - k) 0
theorem fok_len (ks : List Int) {k : Nat} (hk : k ≤ ks.length) : (fok ks k).length = ks.length := by
  rw [fok, List.length_append, formsG_len, List.length_replicate, List.length_take]; omega
theorem fok_all (ks : List Int) : fok ks ks.length = forms ks := by simp [fok, forms]
theorem rep_cons {n k : Nat} (h : k < n) : List.replicate (n - k) (0 : Int) = 0 :: List.replicate (n - (k + 1)) 0 := by
  rw [show n - k = (n - (k + 1)) + 1 by omega, List.replicate_succ]
theorem fok_3 {ks : List Int} {k : Nat} (h : ks[k]? = some 3) : fok ks (k + 1) = fok ks k := by
  have hk := (List.getElem?_eq_some_iff.1 h).1
  rw [fok, fok, take_snoc_get h, forms_snoc3, rep_cons hk, List.append_assoc]; rfl
theorem formN_0 (p c : Int) : formN p c 0 = if (p == 1 && bfr c) = true then 3 else 0 := by
  rw [formN, show (c == 1 && bfr 0) = false by simp [bfr], Bool.and_comm (bfr c)]; rfl
theorem fok_no {ks : List Int} {k : Nat} {c : Int} (h : ks[k]? = some c) (h3 : c ≠ 3) (hn : (lastF 0 (ks.take k) == 1 && bfr c) = false) : fok ks (k + 1) = fok ks k := by
  have hk := (List.getElem?_eq_some_iff.1 h).1
  have hz : formN (lastF 0 (ks.take k)) c 0 = 0 := by rw [formN_0, hn]; rfl
  rw [fok, fok, take_snoc_get h, forms_snoc h3, rep_cons hk, List.append_assoc, hz, hn]
  cases lastI (ks.take k) <;> rfl
theorem fok_yes {ks : List Int} {k j : Nat} {c : Int} (h : ks[k]? = some c) (h3 : c ≠ 3) (hl : lastI (ks.take k) = some j) (hn : (lastF 0 (ks.take k) == 1 && bfr c) = true) :
    fok ks (k + 1) = ((fok ks k).set j (if (fok ks k)[j]? = some 0 then 1 else 2)).set k 3 := by
  have hk := (List.getElem?_eq_some_iff.1 h).1
  obtain ⟨q, g1, -⟩ := lastI_some hl
  have hj : j < (formsG 0 (ks.take k)).length := by rw [formsG_len]; exact (List.getElem?_eq_some_iff.1 g1).1
  have hF : (formsG 0 (ks.take k)).length = k := by rw [formsG_len, List.length_take]; omega
  have hz : formN (lastF 0 (ks.take k)) c 0 = 3 := by rw [formN_0, hn]; rfl
  rw [fok, fok, take_snoc_get h, forms_snoc h3, rep_cons hk, hl, hz, List.set_append_left _ _ hj, List.getElem?_append_left hj]
  have := set_mid ((formsG 0 (ks.take k)).set j (if (formsG 0 (ks.take k))[j]? = some 0 then 1 else 2)) (List.replicate (ks.length - (k + 1)) 0) 0 3
  rw [List.length_set, hF] at this
  rw [this]
  simp only [hn, if_true]
  rw [List.append_assoc]; rfl
def prvI (ks : List Int) (k : Nat) : Int := match lastI (ks.take k) with | some j => (j : Int) | none => -1
theorem prvI_succ {ks : List Int} {k : Nat} {c : Int} (h : ks[k]? = some c) : prvI ks (k + 1) = if c = 3 then prvI ks k else (k : Int) := by
  have hk := (List.getElem?_eq_some_iff.1 h).1
  rw [prvI, take_snoc_get h, lastI_snoc]
  by_cases h3 : c = 3
  · rw [if_pos h3, if_pos h3]; rfl
  · rw [if_neg h3, if_neg h3, List.length_take, Nat.min_eq_left (by omega)]
theorem jnAfter_v (j : TJoin) : PC Tryz.prog 91 [.d j.D] (.d (.bool (j.fKind == 1))) [] := by
  refine pc_intro ttOk (by kernel_rfl) Tryz.func91 rfl (by kernel_rfl) (by kernel_rfl) (by kernel_rfl) (fun hw => ?_)
  (conv => whnf)
  (repeat' (first | (refine stg_ ?_) | fail | (refine br_ (fun hbr => ?_) (fun hbr => ?_))))
  (refine RetOK.d rfl rfl ?_; conv => whnf)
theorem jnBefore_v (j : TJoin) : PC Tryz.prog 92 [.d j.D] (.d (.bool (bfr j.fKind))) [] := by
  refine pc_intro ttOk (by kernel_rfl) Tryz.func92 rfl (by kernel_rfl) (by kernel_rfl) (by kernel_rfl) (fun hw => ?_)
  (conv => whnf)
  (repeat' (first | (refine stg_ ?_) | fail | (refine br_ (fun hbr => ?_) (fun hbr => ?_))))
  all_goals ((refine RetOK.d rfl rfl ?_; conv => whnf); simp_all [bfr])
set_option maxHeartbeats 4000000 in
theorem formsOf_v (f : TFeatures) (xs : List TItem) (hx : xs.length ≤ 1000) : PC Tryz.prog 42 [.d f.D, .d (.lst (xs.map TItem.D))] (.own 1 0 xs.length) [.arr 1 ((forms (ksL f xs)).map (D.int .i64)) true] := by
  refine pc_intro ttOk (by kernel_rfl) Tryz.func42 rfl (by kernel_rfl) (by kernel_rfl) (by kernel_rfl) (fun hw => ?_)
  have hL : (xs.map TItem.D).length = xs.length := List.length_map _
  have hJl : (joL f xs).length = xs.length := List.length_map _
  have hKl : (ksL f xs).length = xs.length := by rw [ksL, List.length_map, hJl]
  (conv => whnf)
  (repeat' (first | (refine stg_ ?_) | (refine MkW.at (by omega) (by omega) (by show ((40 : Nat) : Int) * _ ≤ 2 ^ 48; omega) ?_; (conv => whnf)) | (refine br_ (fun hbr => ?_) (fun hbr => ?_))))
  refine LoopW.go (α := Nat) (fun k => [(1, .d (.lst (xs.map TItem.D))), (2, .pB 1 [] 0), (5, .own 2 0 xs.length), (15, .d (.lst (xs.map TItem.D))), (16, .d (.int .i64 (xs.map TItem.D).length)), (17, .d (.int .i64 k))]) (fun k => [.gone, .box (.d f.D), .arr 5 (fillL TJoin.D jz.D (joL f xs) k) true]) (fun k => k ≤ xs.length) (fun k => xs.length - k) 0 (Weak.cov ⟨rfl, rfl, by (show V.own 2 0 ((xs.map TItem.D).length : Int).toNat = V.own 2 0 xs.length; rw [hL]; rfl), rfl, rfl, rfl, trivial⟩ ⟨trivial, rfl, by (rw [fillL_zero, hJl]; show Blk.arr 5 (List.replicate ((xs.map TItem.D).length : Int).toNat _) true = _; rw [hL]; rfl), trivial⟩ rfl) (by omega) (fun k hk => ?_)
  have hfl := fillL_len TJoin.D jz.D (joL f xs) k (by omega)
  (conv => whnf)
  (refine br_ (fun h1 => ?_) (fun h1 => ?_) <;> (repeat (refine stg_ ?_)))
  · obtain ⟨x, hkx⟩ := at_lt' (xs := xs) (k := k) (by omega)
    have hset := fillL_set TJoin.D jz.D (joL f xs) (joL_at (f := f) hkx)
    have hget := fillL_get TJoin.D jz.D (joL f xs) (k := k) (by omega)
    have c1 := joinOf_v f x.fGlyph
    generalize fillL TJoin.D jz.D (joL f xs) k = FL at *
    (repeat' (first | (refine stg_ ?_) | (refine cla_ (c1) ?_) | (refine br_ (fun hbr => ?_) (fun hbr => ?_))))
    all_goals first | (exfalso; omega) | skip
    refine NextW.go (k + 1) (Weak.cov ⟨rfl, rfl, rfl, rfl, rfl, rfl, trivial⟩ ⟨trivial, rfl, by rw [← hset]; rfl, trivial⟩ rfl) (by omega) (by omega)
  obtain rfl : k = xs.length := by omega
  have hfa : fillL TJoin.D jz.D (joL f xs) xs.length = (joL f xs).map TJoin.D := by rw [← hJl, fillL_all]
  rw [hfa]
  clear hfl hfa h1 hk
  (repeat' (first | (refine stg_ ?_) | (refine MkW.at (by omega) (by omega) (by show ((8 : Nat) : Int) * _ ≤ 2 ^ 48; omega) ?_; (conv => whnf)) | (refine br_ (fun hbr => ?_) (fun hbr => ?_))))
  have hK : ∀ (k : Nat) (x : TItem), xs[k]? = some x → (ksL f xs)[k]? = some (jnD f x.fGlyph).fKind := fun k x h => ksL_at h
  have hJ : ∀ (k : Nat) (x : TItem), xs[k]? = some x → (joL f xs)[k]? = some (jnD f x.fGlyph) := fun k x h => joL_at h
  have hKJ : ksL f xs = (joL f xs).map (·.fKind) := rfl
  generalize ksL f xs = ks at *
  generalize joL f xs = js at *
  have hJm : (js.map TJoin.D).length = xs.length := by rw [List.length_map, hJl]
  refine LoopW.go (α := Nat) (fun k => [(5, .own 2 0 xs.length), (8, .own 3 0 xs.length), (9, .d (.int .i64 (prvI ks k))), (36, .own 2 0 xs.length), (37, .d (.int .i64 xs.length)), (38, .d (.int .i64 k))]) (fun k => [.gone, .box (.d f.D), .arr 5 (js.map TJoin.D) true, .arr 1 ((fok ks k).map (D.int .i64)) true]) (fun k => k ≤ xs.length) (fun k => xs.length - k) 0 (Weak.cov ⟨rfl, by (show V.own 3 0 ((xs.map TItem.D).length : Int).toNat = V.own 3 0 xs.length; rw [hL]; rfl), rfl, rfl, rfl, rfl, trivial⟩ ⟨trivial, rfl, rfl, by (show Blk.arr 1 (List.replicate ((xs.map TItem.D).length : Int).toNat _) true = Blk.arr 1 ((fok ks 0).map (D.int .i64)) true; rw [hL]; simp [fok, formsG, hKl]), trivial⟩ rfl) (by omega) (fun k hk => ?_)
  have hfk := fok_len ks (k := k) (by omega)
  have hfm : ((fok ks k).map (D.int .i64)).length = xs.length := by rw [List.length_map, hfk, hKl]
  by_cases hlt : k < xs.length
  · obtain ⟨x, hkx⟩ := at_lt' (xs := xs) (k := k) hlt
    have e1 := hK k x hkx
    have e2 := hJ k x hkx
    have e2' : (js.map TJoin.D)[k]? = some (jnD f x.fGlyph).D := by rw [List.getElem?_map, e2]; rfl
    have hpn := prvI_succ e1
    by_cases h3 : (jnD f x.fGlyph).fKind = 3
    · rw [h3] at e1
      have hf3 := fok_3 e1
      rw [if_pos h3] at hpn
      generalize fok ks k = OUT at *
      (conv => whnf)
      (repeat' (first | (refine stg_ ?_) | fail | (refine br_ (fun hbr => ?_) (fun hbr => ?_))))
      all_goals first | (exfalso; omega) | (exfalso; simp_all; done) | skip
      refine NextW.go (k + 1) (Weak.cov ⟨rfl, rfl, by rw [hpn]; rfl, rfl, rfl, rfl, trivial⟩ ⟨trivial, rfl, rfl, by rw [hf3], trivial⟩ rfl) (by omega) (by omega)
    · rw [if_neg h3] at hpn
      have c3 := jnBefore_v (jnD f x.fGlyph)
      cases hl : lastI (ks.take k) with
      | none =>
        have hp : prvI ks k = -1 := by rw [prvI, hl]
        have hno := fok_no e1 h3 (by rw [(lastI_none hl).1 0]; rfl)
        generalize fok ks k = OUT at *
        rw [hp]
        (conv => whnf)
        (repeat' (first | (refine stg_ ?_) | fail | (refine br_ (fun hbr => ?_) (fun hbr => ?_))))
        all_goals first | (exfalso; omega) | (exfalso; simp_all; done) | skip
        refine NextW.go (k + 1) (Weak.cov ⟨rfl, rfl, by rw [hpn]; rfl, rfl, rfl, rfl, trivial⟩ ⟨trivial, rfl, rfl, by rw [hno], trivial⟩ rfl) (by omega) (by omega)
      | some j =>
        have hp : prvI ks k = (j : Int) := by rw [prvI, hl]
        obtain ⟨q, g1, g2, g3, -⟩ := lastI_some hl
        have hjk : j < k := by
          have := (List.getElem?_eq_some_iff.1 g1).1
          rw [List.length_take] at this; omega
        rw [List.getElem?_take, if_pos hjk, hKJ, List.getElem?_map] at g1
        obtain ⟨y, y1, y2⟩ := Option.map_eq_some_iff.1 g1
        have y1' : (js.map TJoin.D)[j]? = some y.D := by rw [List.getElem?_map, y1]; rfl
        have c2 := jnAfter_v y
        obtain ⟨v, hv⟩ := at_lt' (xs := fok ks k) (k := j) (by omega)
        have hv' : ((fok ks k).map (D.int .i64))[j]? = some (.int .i64 v) := by rw [List.getElem?_map, hv]; rfl
        have hno := fok_no (k := k) e1 h3
        have hyes := fok_yes (k := k) e1 h3 hl
        rw [g3 0, ← y2] at hno hyes
        rw [hv] at hyes
        rw [hp]
        obtain ⟨u, hu⟩ := at_lt' (xs := fok ks k) (k := k) (by omega)
        generalize fok ks k = OUT at *
        have hset : ∀ z : D, ((OUT.map (D.int .i64)).set ((j : Int).toNat + 0) z)[(k : Int).toNat + 0]? = some (.int .i64 u) := fun z => by
          rw [show (j : Int).toNat + 0 = j by omega, show (k : Int).toNat + 0 = k by omega, List.getElem?_set_ne (by omega), List.getElem?_map, hu]; rfl
        have hfin : ∀ z : Int, ((OUT.map (D.int .i64)).set ((j : Int).toNat + 0) (.int .i64 z)).set ((k : Int).toNat + 0) (.int .i64 3) = ((OUT.set j z).set k 3).map (D.int .i64) := fun z => by
          rw [show (j : Int).toNat + 0 = j by omega, show (k : Int).toNat + 0 = k by omega, List.map_set, List.map_set]
        (conv => whnf)
        (repeat' (first | (refine stg_ ?_) | (refine cla_ (c2) ?_) | (refine cla_ (c3) ?_) | (refine EoW.at (hset _) ?_; (conv => whnf)) | (refine br_ (fun hbr => ?_) (fun hbr => ?_))))
        all_goals first | (exfalso; omega) | skip
        · rw [if_pos (by congr 1)] at hyes
          refine NextW.go (k + 1) (Weak.cov ⟨rfl, rfl, by rw [hpn]; rfl, rfl, rfl, rfl, trivial⟩ ⟨trivial, rfl, rfl, by (rw [hyes (by simp_all)]; exact congrArg (fun l => Blk.arr 1 l true) (hfin 1)), trivial⟩ rfl) (by omega) (by omega)
        · rw [if_neg (by intro h; have := Option.some.inj h; omega)] at hyes
          refine NextW.go (k + 1) (Weak.cov ⟨rfl, rfl, by rw [hpn]; rfl, rfl, rfl, rfl, trivial⟩ ⟨trivial, rfl, rfl, by (rw [hyes (by simp_all)]; exact congrArg (fun l => Blk.arr 1 l true) (hfin 2)), trivial⟩ rfl) (by omega) (by omega)
        all_goals refine NextW.go (k + 1) (Weak.cov ⟨rfl, rfl, by rw [hpn]; rfl, rfl, rfl, rfl, trivial⟩ ⟨trivial, rfl, rfl, by (rw [hno (by simp_all)]), trivial⟩ rfl) (by omega) (by omega)
  · (conv => whnf)
    (repeat' (first | (refine stg_ ?_) | fail | (refine br_ (fun hbr => ?_) (fun hbr => ?_))))
    all_goals first | (exfalso; omega) | skip
    obtain rfl : k = xs.length := by omega
    rw [← hKl, fok_all]
    (refine ⟨⟨[some 3], ⟨by decide, rfl, trivial, trivial⟩, by decide, rfl, ?_⟩⟩; (conv => whnf); exact ⟨by decide, rfl⟩)
end Go.Proofs.YtdifjelniibmiaaGreat

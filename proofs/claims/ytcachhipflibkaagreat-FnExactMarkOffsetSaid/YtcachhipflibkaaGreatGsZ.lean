/- Sets of glyphs: the reference's order and validity, by the machine. -/
import Derived.Test.YtcachhipflibkaaGreatGsY
set_option linter.unusedSimpArgs false
set_option linter.unusedVariables false
namespace Go.Proofs.YtcachhipflibkaaGreat
open Go.RowKit
def ostp (ps : List (List Int)) (out : List Int) (i : Nat) : List Int :=
  if (i : Int) ∈ out then out else if ((ps.getD i []).all fun p => decide (p ∈ out)) = true then out ++ [(i : Int)] else out
def opas (ps : List (List Int)) (out : List Int) (k : Nat) : List Int := (List.range k).foldl (ostp ps) out
def oF (ps : List (List Int)) (n : Nat) : Nat → List Int → List Int
  | 0, out => out
  | f + 1, out => oF ps n f (opas ps out n)
theorem opas_succ (ps : List (List Int)) (out : List Int) (k : Nat) : opas ps out (k + 1) = ostp ps (opas ps out k) k := by
  rw [opas, opas, List.range_succ, List.foldl_append]; rfl
theorem ostp_ext (ps : List (List Int)) (out : List Int) (i : Nat) : ∃ t, ostp ps out i = out ++ t := by
  unfold ostp; split
  · exact ⟨[], by simp⟩
  · split
    · exact ⟨_, rfl⟩
    · exact ⟨[], by simp⟩
theorem opas_ext (ps : List (List Int)) (out : List Int) : ∀ k, ∃ t, opas ps out k = out ++ t
  | 0 => ⟨[], by simp [opas]⟩
  | k + 1 => by
    obtain ⟨t, h⟩ := opas_ext ps out k
    obtain ⟨u, h2⟩ := ostp_ext ps (opas ps out k) k
    exact ⟨t ++ u, by rw [opas_succ, h2, h, List.append_assoc]⟩
theorem opas_fix {ps : List (List Int)} {out : List Int} {k : Nat} (h : (opas ps out k).length = out.length) : opas ps out k = out := by
  obtain ⟨t, e⟩ := opas_ext ps out k
  rw [e, List.length_append] at h
  rw [e, List.eq_nil_of_length_eq_zero (show t.length = 0 by omega), List.append_nil]
theorem oF_fix {ps : List (List Int)} {n : Nat} {out : List Int} (h : opas ps out n = out) : ∀ f, oF ps n f out = out
  | 0 => rfl
  | f + 1 => by rw [oF, h, oF_fix h f]
/-- the list and the marks -/
structure OrR (n : Nat) (out : List Int) (bs : List Bool) : Prop where
  bl : bs.length = n
  iff : ∀ i, i < n → (bs.getD i false = true ↔ (i : Int) ∈ out)
  rng : ∀ p ∈ out, 0 ≤ p ∧ p < (n : Int)
  len : out.length = cnt bs
theorem OrR.start (n : Nat) : OrR n [] (List.replicate n false) := ⟨by simp, fun i hi => by simp [List.getElem?_replicate, hi], by simp, by rw [cnt_rep]; rfl⟩
theorem OrR.step {ps : List (List Int)} (hP : ∀ q ∈ ps, ∀ p ∈ q, 0 ≤ p) {n i : Nat} {out : List Int} {bs : List Bool} (H : OrR n out bs) (hn : ps.length = n) (hi : i < n) : OrR n (ostp ps out i) (stp ps bs i) := by
  have hb := H.iff i hi
  have hbl := H.bl
  have hq : ((ps.getD i []).all fun p => decide (p ∈ out)) = ((ps.getD i []).all fun p => bs.getD p.toNat false) := by
    have key : ∀ q : List Int, (∀ p ∈ q, 0 ≤ p) → (q.all fun p => decide (p ∈ out)) = (q.all fun p => bs.getD p.toNat false) := by
      intro q
      induction q with
      | nil => intro _; rfl
      | cons p q ih =>
        intro hq
        rw [List.all_cons, List.all_cons, ih (fun p hp => hq p (by simp [hp]))]
        congr 1
        have h0 := hq p (by simp)
        rw [Bool.eq_iff_iff, decide_eq_true_iff]
        rcases Nat.lt_or_ge p.toNat n with hlt | hge
        · rw [H.iff p.toNat hlt, show ((p.toNat : Nat) : Int) = p by omega]
        · rw [List.getD_eq_getElem?_getD, List.getElem?_eq_none (by omega)]
          constructor
          · intro hm; have := (H.rng p hm).2; omega
          · intro hm; cases hm
    refine key _ ?_
    intro p hp
    rw [List.getD_eq_getElem?_getD] at hp
    cases hx : ps[i]? with
    | none => rw [hx] at hp; simp at hp
    | some q => rw [hx] at hp; exact hP q (List.mem_of_getElem? hx) p hp
  unfold ostp stp
  by_cases h1 : (i : Int) ∈ out
  · rw [if_pos h1, if_pos (hb.2 h1)]; exact H
  · rw [if_neg h1, if_neg (fun e => h1 (hb.1 e)), hq]
    split
    · have hbF : bs[i]? = some false := by
        rw [List.getElem?_eq_getElem (by omega)]
        cases hv : bs[i] with
        | false => rfl
        | true => exact absurd (hb.1 (by rw [List.getD_eq_getElem?_getD, List.getElem?_eq_getElem (by omega), hv]; rfl)) h1
      refine ⟨by rw [List.length_set]; exact H.bl, fun j hj => ?_, fun p hp => ?_, by rw [List.length_append, cnt_set hbF, H.len]; rfl⟩
      · rw [List.mem_append, List.mem_singleton]
        by_cases e : i = j
        · subst e
          rw [List.getD_eq_getElem?_getD, List.getElem?_set_self (by omega)]
          simp
        · have := H.iff j hj
          rw [List.getD_eq_getElem?_getD] at this ⊢
          rw [List.getElem?_set_ne e, this]
          constructor
          · intro h; exact .inl h
          · rintro (h | h)
            · exact h
            · omega
      · rw [List.mem_append, List.mem_singleton] at hp
        rcases hp with hp | hp
        · exact H.rng p hp
        · omega
    · exact H
theorem OrR.pass {ps : List (List Int)} (hP : ∀ q ∈ ps, ∀ p ∈ q, 0 ≤ p) {n : Nat} {out : List Int} {bs : List Bool} (H : OrR n out bs) (hn : ps.length = n) : ∀ k, k ≤ n → OrR n (opas ps out k) (pas ps bs k)
  | 0, _ => H
  | k + 1, hk => by rw [opas_succ, pas_succ]; exact (OrR.pass hP H hn k (by omega)).step hP hn (by omega)
theorem OrR.fin {ps : List (List Int)} (hP : ∀ q ∈ ps, ∀ p ∈ q, 0 ≤ p) {n : Nat} (hn : ps.length = n) : ∀ (f : Nat) {out : List Int} {bs : List Bool}, OrR n out bs → OrR n (oF ps n f out) (gordF ps f bs)
  | 0, _, _, H => H
  | f + 1, out, bs, H => by
    rw [oF, gordF, H.bl]
    exact OrR.fin hP hn f (H.pass hP hn n (Nat.le_refl _))
def oAll (ps : List (List Int)) : List Int := oF ps ps.length (ps.length + 1) []
theorem oAll_len {ps : List (List Int)} (hP : ∀ q ∈ ps, ∀ p ∈ q, 0 ≤ p) : decide ((oAll ps).length = ps.length) = gordB ps := by
  have H := OrR.fin hP rfl (ps.length + 1) (OrR.start ps.length)
  have hl := H.len
  have hb := H.bl
  rw [oAll, hl, gordB]
  cases hq : (gordF ps (ps.length + 1) (List.replicate ps.length false)).all id with
  | true => rw [decide_eq_true_iff, all_cnt hq, hb]
  | false =>
    rw [decide_eq_false_iff_not]
    intro he
    have := cnt_all (bs := gordF ps (ps.length + 1) (List.replicate ps.length false)) (by rw [he, hb])
    rw [← Bool.not_eq_true] at hq
    refine hq (List.all_eq_true.2 fun b hb => ?_)
    obtain ⟨i, hi, rfl⟩ := List.getElem_of_mem hb
    have := this i hi
    rw [List.getD_eq_getElem?_getD, List.getElem?_eq_getElem hi] at this
    exact this
/-- the state of the reference's search -/
structure OrT (ps : List (List Int)) (out : List Int) (bs : List Bool) (m : Nat) : Prop where
  s : OrS ps bs m
  r : OrR ps.length out bs
  eq : oF ps ps.length (ps.length + 1 - m) out = oAll ps
theorem OrT.start (ps : List (List Int)) : OrT ps [] (List.replicate ps.length false) 0 := ⟨OrS.start ps, OrR.start _, rfl⟩
theorem OrT.next {ps : List (List Int)} (hP : ∀ q ∈ ps, ∀ p ∈ q, 0 ≤ p) {out : List Int} {bs : List Bool} {m : Nat} (H : OrT ps out bs m) (h : (opas ps out ps.length).length ≠ out.length) : OrT ps (opas ps out ps.length) (pas ps bs ps.length) (m + 1) := by
  have hr := H.r.pass hP rfl ps.length (Nat.le_refl _)
  have e1 := hr.len
  have e2 := H.r.len
  have h2 := H.s.le
  have h3 := cnt_le (pas ps bs ps.length)
  have h4 := hr.bl
  have h5 := pas_cnt ps bs ps.length (Nat.le_of_eq H.s.len.symm)
  refine ⟨H.s.next (by omega), hr, ?_⟩
  rw [← H.eq, show ps.length + 1 - m = (ps.length + 1 - (m + 1)) + 1 by omega, oF]
theorem OrT.stop {ps : List (List Int)} {out : List Int} {bs : List Bool} {m : Nat} (H : OrT ps out bs m) (h : (opas ps out ps.length).length = out.length) : oAll ps = out := by
  rw [← H.eq, oF_fix (opas_fix h)]
theorem gsHas_v (xs : List Int) (n : Int) : PC Tryz.prog 47 [.d (.lst (xs.map (D.int .i64))), .d (.int .i64 n)] (.d (.bool (decide (n ∈ xs)))) [] := by
  refine pc_intro ttOk (by kernel_rfl) Tryz.func47 rfl (by kernel_rfl) (by kernel_rfl) (by kernel_rfl) (fun hw => ?_)
  have hL : (xs.map (D.int .i64)).length = xs.length := List.length_map _
  have hm : (xs.map (D.int .i64)).length ≤ 9223372036854775807 := hw.1.1
  (conv => whnf)
  refine LoopW.go (α := Nat) (fun k => [(0, .d (.lst (xs.map (D.int .i64)))), (1, .d (.int .i64 n)), (5, .d (.int .i64 k))]) (fun k => [.gone]) (fun k => k ≤ xs.length ∧ ¬ n ∈ xs.take k) (fun k => xs.length - k) 0 covT_ ?_ (fun k hk => ?_)
  · exact ⟨by omega, by simp⟩
  obtain ⟨hk1, hk2⟩ := hk
  (conv => whnf)
  (refine br_ (fun h2 => ?_) (fun h2 => ?_) <;> (repeat (refine stg_ ?_)))
  · obtain ⟨x, hx⟩ := at_lt' (xs := xs) (k := k) (by omega)
    (repeat (refine stg_ ?_))
    (refine br_ (fun h3 => ?_) (fun h3 => ?_) <;> (repeat (refine stg_ ?_)))
    · (refine RetOK.d rfl rfl ?_; conv => whnf)
      rw [decide_eq_true]
      rw [← h3]; exact List.mem_of_getElem? hx
    · (repeat (refine stg_ ?_))
      exact NextW.go (k + 1) covT_ ⟨by omega, by rw [take_snoc_get hx]; simp only [List.mem_append, List.mem_singleton]; rintro (h | h); (focus exact hk2 h); exact h3 h.symm⟩ (by omega)
  · (refine RetOK.d rfl rfl ?_; conv => whnf)
    rw [List.take_of_length_le (by omega)] at hk2
    rw [decide_eq_false hk2]
set_option maxHeartbeats 4000000 in
theorem l17Order_v (s : TGlyphSet) (hl : s.fGlyphs.length ≤ 40) (hB : ∀ g ∈ s.fGlyphs, g.fParts.length ≤ 6 ∧ ∀ p ∈ g.fParts, 0 ≤ p.fGlyph) :
    PC Tryz.prog 121 [.pX s.D] (.own 1 0 (oAll (psG s.fGlyphs)).length) [.arr 1 ((oAll (psG s.fGlyphs)).map (D.int .i64)) true] := by
  refine pc_intro ttOk (by kernel_rfl) Tryz.func121 rfl (by kernel_rfl) (by kernel_rfl) (by kernel_rfl) (fun hw => ?_)
  have hL : (s.fGlyphs.map TGlyph.D).length = s.fGlyphs.length := List.length_map _
  have hps := psG_len s.fGlyphs
  have hP : ∀ q ∈ psG s.fGlyphs, ∀ p ∈ q, 0 ≤ p := by
    intro q hq p hp
    obtain ⟨g, hg, rfl⟩ := List.mem_map.1 hq
    obtain ⟨y, hy, rfl⟩ := List.mem_map.1 hp
    exact (hB g hg).2 y hy
  have hB' : ∀ (i : Nat) (x : TGlyph), s.fGlyphs[i]? = some x → x.fParts.length ≤ 6 ∧ ∀ p ∈ x.fParts, 0 ≤ p.fGlyph := fun i x hx => hB x (List.mem_of_getElem? hx)
  have hPA : ∀ (i : Nat) (x : TGlyph), s.fGlyphs[i]? = some x → (psG s.fGlyphs).getD i [] = x.fParts.map (·.fGlyph) := fun i x hx => psG_at hx
  generalize psG s.fGlyphs = ps at *
  (conv => whnf)
  (repeat (refine stg_ ?_))
  refine LoopW.go (α := Nat × List Int × List Bool × Bool) (fun t => [(0, .pX s.D), (3, .own 1 0 t.2.1.length), (4, .d (.bool t.2.2.2))]) (fun t => [.gone, .arr 1 (t.2.1.map (D.int .i64)) true])
    (fun t => t.2.1.length ≤ s.fGlyphs.length ∧ (t.2.2.2 = true → OrT ps t.2.1 t.2.2.1 t.1) ∧ (t.2.2.2 = false → oAll ps = t.2.1)) (fun t => 2 * (s.fGlyphs.length - t.2.1.length) + (bif t.2.2.2 then 1 else 0)) (0, [], List.replicate ps.length false, true) covT_ ⟨by simp, fun _ => OrT.start ps, fun h => by cases h⟩ (fun t ht => ?_)
  obtain ⟨m, out, bs, mr⟩ := t
  obtain ⟨H1, H2, H3⟩ := ht
  dsimp only at H1 H2 H3 ⊢
  (conv => whnf)
  (refine br_ (fun h1 => ?_) (fun h1 => ?_) <;> (repeat (refine stg_ ?_)))
  · have HT := H2 h1
    subst h1
    refine LoopW.go (α := Nat × List Int) (fun t => [(0, .pX s.D), (3, .own 1 0 t.2.length), (4, .d (.bool (decide (out.length < t.2.length)))), (5, .d (.int .i64 t.1))]) (fun t => [.gone, .arr 1 (t.2.map (D.int .i64)) true])
      (fun t => t.1 ≤ s.fGlyphs.length ∧ t.2 = opas ps out t.1) (fun t => s.fGlyphs.length - t.1) (0, out) (Weak.cov ⟨rfl, rfl, by rw [decide_eq_false (by dsimp only; omega)]; rfl, rfl, trivial⟩ ⟨trivial, rfl, trivial⟩ rfl) ⟨by simp, rfl⟩ (fun t ht => ?_)
    obtain ⟨i, oi⟩ := t
    obtain ⟨hi1, hi2⟩ := ht
    dsimp only at hi1 hi2 ⊢
    have hcl : oi.length ≤ s.fGlyphs.length := by
      have hR := HT.r.pass hP rfl i (by omega)
      rw [← hi2] at hR
      have e1 := hR.len
      have e2 := cnt_le (pas ps bs i)
      have e3 := hR.bl
      omega
    have hol : out.length ≤ oi.length := by
      obtain ⟨t, e⟩ := opas_ext ps out i
      rw [hi2, e, List.length_append]; omega
    have hOL : (oi.map (D.int .i64)).length = oi.length := List.length_map _
    (conv => whnf)
    (repeat (refine stg_ ?_))
    (refine br_ (fun h2 => ?_) (fun h2 => ?_) <;> (repeat (refine stg_ ?_)))
    · obtain ⟨x, hx⟩ := at_lt' (xs := s.fGlyphs) (k := i) (by omega)
      have c1 := gsHas_v oi i
      (repeat' (first | (refine stg_ ?_) | (refine cla_ (c1) ?_) | (refine br_ (fun hbr => ?_) (fun hbr => ?_))))
      · refine NextW.go (i + 1, oi) covT_ ⟨by dsimp only; omega, ?_⟩ (by dsimp only; omega)
        show oi = opas ps out (i + 1)
        rw [opas_succ, ← hi2, ostp, if_pos (by assumption)]
      · have hno : ¬ (i : Int) ∈ oi := by assumption
        have hPx := hPA i x hx
        have hp6 := (hB' i x hx).1
        have hPl : (x.fParts.map TPart.D).length = x.fParts.length := List.length_map _
        refine LoopW.go (α := Nat) (fun k => [(0, .pX s.D), (3, .own 1 0 oi.length), (4, .d (.bool (decide (out.length < oi.length)))), (5, .d (.int .i64 i)), (6, .d (.bool ((x.fParts.take k).all fun p => decide (p.fGlyph ∈ oi)))), (7, .d (.int .i64 k))]) (fun _ => [.gone, .arr 1 (oi.map (D.int .i64)) true])
          (fun k => k ≤ x.fParts.length) (fun k => x.fParts.length - k) 0 covT_ (by omega) (fun k hk1 => ?_)
        (conv => whnf)
        (repeat (refine stg_ ?_))
        (refine br_ (fun h4 => ?_) (fun h4 => ?_) <;> (repeat (refine stg_ ?_)))
        · obtain ⟨y, hy⟩ := at_lt' (xs := x.fParts) (k := k) (by omega)
          have c2 := gsHas_v oi y.fGlyph
          have hT : ((x.fParts.take (k + 1)).all fun p => decide (p.fGlyph ∈ oi)) = (((x.fParts.take k).all fun p => decide (p.fGlyph ∈ oi)) && decide (y.fGlyph ∈ oi)) := by rw [take_snoc_get hy, List.all_append]; simp
          generalize ((x.fParts.take k).all fun p => decide (p.fGlyph ∈ oi)) = q at *
          (repeat' (first | (refine stg_ ?_) | (refine cla_ (c2) ?_) | (refine br_ (fun hbr => ?_) (fun hbr => ?_))))
          all_goals (refine NextW.go (k + 1) (Weak.cov ⟨rfl, rfl, rfl, rfl, by (rw [hT]; first | (rw [show q = true by assumption]; rfl) | (rw [show q = false by assumption]; rfl)), rfl, trivial⟩ ⟨trivial, rfl, trivial⟩ rfl) (by omega) (by omega))
        · rw [List.take_of_length_le (by omega)]
          have hr : ((ps.getD i []).all fun p => decide (p ∈ oi)) = (x.fParts.all fun p => decide (p.fGlyph ∈ oi)) := by rw [hPx, List.all_map]; rfl
          cases hq : (x.fParts.all fun p => decide (p.fGlyph ∈ oi)) with
          | true =>
            (conv => whnf)
            (repeat' (first | (refine stg_ ?_) | fail | (refine br_ (fun hbr => ?_) (fun hbr => ?_))))
            have hQ : (oi ++ [(i : Int)]).length = oi.length + 1 := by simp
            have hD : decide (out.length < (oi ++ [(i : Int)]).length) = true := decide_eq_true (by rw [hQ]; omega)
            refine NextW.go (i + 1, oi ++ [(i : Int)]) (Weak.cov ⟨rfl, by (show _ = V.own 1 0 (oi ++ [(i : Int)]).length; rw [hQ]; (first | rfl | (conv => lhs; whnf); simp only [hOL]; done)), by (show _ = V.d (D.bool (decide (out.length < (oi ++ [(i : Int)]).length))); rw [hD]; rfl), rfl, trivial⟩ ⟨trivial, by (rw [List.take_of_length_le (by omega), List.map_append]; rfl), trivial⟩ rfl) ⟨by dsimp only; omega, ?_⟩ (by dsimp only; omega)
            show oi ++ [(i : Int)] = opas ps out (i + 1)
            rw [opas_succ, ← hi2, ostp, if_neg hno, hr, hq, if_pos rfl]
          | false =>
            (conv => whnf)
            (repeat' (first | (refine stg_ ?_) | fail | (refine br_ (fun hbr => ?_) (fun hbr => ?_))))
            refine NextW.go (i + 1, oi) covT_ ⟨by dsimp only; omega, ?_⟩ (by dsimp only; omega)
            show oi = opas ps out (i + 1)
            rw [opas_succ, ← hi2, ostp, if_neg hno, hr, hq]; rfl
    · obtain rfl : i = s.fGlyphs.length := by omega
      rw [← hps] at hi2
      refine NextW.go (m + 1, oi, pas ps bs ps.length, decide (out.length < oi.length)) covT_ ⟨hcl, fun h => ?_, fun h => ?_⟩ ?_
      · have h := of_decide_eq_true h
        show OrT ps oi (pas ps bs ps.length) (m + 1)
        rw [hi2]
        exact HT.next hP (by rw [← hi2]; omega)
      · have h := of_decide_eq_false h
        show oAll ps = oi
        rw [HT.stop (by rw [← hi2]; omega), hi2, opas_fix (by rw [← hi2]; omega)]
      · dsimp only
        rcases Nat.lt_or_ge out.length oi.length with h | h
        · rw [decide_eq_true h]; simp only [cond_true]; omega
        · rw [decide_eq_false (by omega)]; simp only [cond_true, cond_false]; omega
  · have hmr : mr = false := by simpa using h1
    rw [H3 hmr]
    (refine ⟨⟨[some 1], ⟨by decide, rfl, trivial, trivial⟩, by decide, rfl, ?_⟩⟩; (conv => whnf); exact ⟨by decide, rfl⟩)
set_option maxHeartbeats 4000000 in
theorem l17Ok_v (s : TGlyphSet) : PC Tryz.prog 69 [.pX s.D] (.d (.bool (gsB s))) [] := by
  refine pc_intro ttOk (by kernel_rfl) Tryz.func69 rfl (by kernel_rfl) (by kernel_rfl) (by kernel_rfl) (fun hw => ?_)
  have hL : (s.fGlyphs.map TGlyph.D).length = s.fGlyphs.length := List.length_map _
  have hF : gsB s = (inB s.fUnit 16 16384 && (decide (s.fGlyphs.length ≤ 40) && (gsG [] s.fGlyphs && gordB (psG s.fGlyphs)))) := rfl
  generalize gsB s = R at hF ⊢
  (conv => whnf)
  (repeat' (first | (refine stg_ ?_) | (refine cl_ (l00In_v _ _ _) ?_) | (refine br_ (fun hbr => ?_) (fun hbr => ?_))))
  all_goals first | ((refine RetOK.d rfl rfl ?_; conv => whnf); rw [hF]; simp_all; done) | ((refine RetOK.d rfl rfl ?_; conv => whnf); rw [hF, decide_eq_false (show ¬ s.fGlyphs.length ≤ 40 by omega)]; simp; done) | skip
  rw [show inB s.fUnit 16 16384 = true by assumption, decide_eq_true (show s.fGlyphs.length ≤ 40 by omega), Bool.true_and, Bool.true_and] at hF
  refine LoopW.go (α := Nat) (fun k => [(0, .pX s.D), (3, .d (.int .i64 k))]) (fun _ => [.gone]) (fun k => k ≤ s.fGlyphs.length ∧ gsG [] s.fGlyphs = gsG (s.fGlyphs.take k) (s.fGlyphs.drop k)) (fun k => s.fGlyphs.length - k) 0 covT_ ⟨by omega, rfl⟩ (fun k hk => ?_)
  obtain ⟨hk1, hk2⟩ := hk
  (conv => whnf)
  (repeat (refine stg_ ?_))
  (refine br_ (fun h2 => ?_) (fun h2 => ?_) <;> (repeat (refine stg_ ?_)))
  · obtain ⟨x, hx⟩ := at_lt' (xs := s.fGlyphs) (k := k) (by omega)
    rw [gsG_at hx] at hk2
    have hx' : (s.fGlyphs.map TGlyph.D)[k]? = some x.D := by rw [List.getElem?_map, hx]; rfl
    have c1 := l17Glyph_v x
    (repeat' (first | (refine stg_ ?_) | (refine cla_ (c1) ?_) | (refine br_ (fun hbr => ?_) (fun hbr => ?_))))
    all_goals first | ((refine RetOK.d rfl rfl ?_; conv => whnf); rw [hF, hk2]; simp_all; done) | skip
    refine LoopW.go (α := Nat) (fun m => [(0, .pX s.D), (3, .d (.int .i64 k)), (4, .d (.int .i64 m))]) (fun _ => [.gone]) (fun m => m ≤ k ∧ (s.fGlyphs.take m).any (glC x) = false) (fun m => k - m) 0 covT_ ⟨by omega, rfl⟩ (fun m hm => ?_)
    obtain ⟨hm1, hm2⟩ := hm
    (conv => whnf)
    (refine br_ (fun h3 => ?_) (fun h3 => ?_) <;> (repeat (refine stg_ ?_)))
    · obtain ⟨y, hy⟩ := at_lt' (xs := s.fGlyphs) (k := m) (by omega)
      have hS := any_snoc' (p := glC x) hy
      have c2 := l17Clash_v y x
      (repeat' (first | (refine stg_ ?_) | (refine cla_ (c2) ?_) | (refine br_ (fun hbr => ?_) (fun hbr => ?_))))
      · (refine RetOK.d rfl rfl ?_; conv => whnf)
        have h4 := any_take (p := glC x) hy (k := k) (by omega) (by assumption)
        rw [hF, hk2, h4]; simp
      · exact NextW.go (m + 1) covT_ ⟨by omega, by rw [hS, hm2]; simp_all⟩ (by omega)
    · obtain rfl : m = k := by omega
      rw [hm2] at hk2
      (repeat (refine stg_ ?_))
      exact NextW.go (m + 1) covT_ ⟨by omega, by rw [hk2]; simp_all⟩ (by omega)
  · rw [gsG_end (by omega)] at hk2
    rw [hk2, Bool.true_and] at hF
    have hAll := fun g hg => glB_parts (gsG_all hk2 g hg)
    have c9 := l17Order_v s (by omega) (fun g hg => ⟨(hAll g hg).1, fun p hp => ((hAll g hg).2 p hp).1⟩)
    have hO := oAll_len (ps := psG s.fGlyphs) (fun q hq p hp => by
      obtain ⟨g, hg, rfl⟩ := List.mem_map.1 hq
      obtain ⟨y, hy, rfl⟩ := List.mem_map.1 hp
      exact ((hAll g hg).2 y hy).1)
    rw [psG_len] at hO
    rw [← hO] at hF
    generalize oAll (psG s.fGlyphs) = oo at *
    (repeat' (first | (refine stg_ ?_) | (refine cla_ (c9) ?_) | (refine br_ (fun hbr => ?_) (fun hbr => ?_))))
    all_goals ((refine RetOK.d rfl rfl ?_; conv => whnf); rw [hF]; congr 1; rw [Bool.eq_iff_iff, decide_eq_true_iff, beq_iff_eq]; omega)
end Go.Proofs.YtcachhipflibkaaGreat

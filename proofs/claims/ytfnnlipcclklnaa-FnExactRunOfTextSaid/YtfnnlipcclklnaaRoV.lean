/- RunOfText: both sides, by the machine. -/
import Derived.Test.YtfnnlipcclklnaaRuV
set_option linter.unusedSimpArgs false
set_option linter.unusedVariables false
namespace Go.Proofs.Ytfnnlipcclklnaa
open Go.RowKit
theorem rtL_at {gs : List TGlyph} {s : ByteArray} {k : Nat} (hk : k < s.size) : rtL gs k (s.data.toList.drop k) = if 0 ≤ fdx (cdEq (s[k]'hk).toNat) gs 0 then (match rtL gs (k + 1) (s.data.toList.drop (k + 1)) with
    | some xs => some (⟨fdx (cdEq (s[k]'hk).toNat) gs 0, k, 1⟩ :: xs)
    | none => none) else none := by
  rw [dropN (k := k) hk, rtL]; rfl
theorem rtL_end {gs : List TGlyph} {s : ByteArray} {k : Nat} (hk : s.size ≤ k) : rtL gs k (s.data.toList.drop k) = some [] := by
  rw [List.drop_eq_nil_of_le hk]; rfl
theorem rtL_len {gs : List TGlyph} : ∀ (cs : List UInt8) (k : Nat) (xs : List TItem), rtL gs k cs = some xs → xs.length = cs.length
  | [], k, xs, h => by cases h; rfl
  | c :: cs, k, xs, h => by
    rw [rtL] at h
    split at h
    · cases hq : rtL gs (k + 1) cs with
      | none => rw [hq] at h; cases h
      | some ys =>
        rw [hq] at h
        cases h
        simp [rtL_len cs (k + 1) ys hq]
    · cases h
/-- a run and a code -/
def rtV (s : TGlyphSet) (t : ByteArray) : Option (List TItem) × Int :=
  if gsB s = false then (none, 1) else if 60 < t.size then (none, 5) else match rtL s.fGlyphs 0 t.data.toList with
    | some xs => (some xs, 0)
    | none => (none, 3)
def ItRes (o : Option (List TItem) × Int) (v : V) (bs : List Blk) : Prop :=
  match o with
  | (none, c) => v = .tup [.nils, .d (.int .i64 c)] ∧ bs = []
  | (some xs, c) => v = .tup [.own 1 0 xs.length, .d (.int .i64 c)] ∧ bs = [.arr 3 (xs.map TItem.D) true]
theorem rtV_cases (s : TGlyphSet) (t : ByteArray) : (∃ c, rtV s t = (none, c)) ∨ ∃ xs c, xs.length ≤ 60 ∧ rtV s t = (some xs, c) := by
  unfold rtV
  split
  · exact .inl ⟨_, rfl⟩
  · split
    · exact .inl ⟨_, rfl⟩
    · cases h : rtL s.fGlyphs 0 t.data.toList with
      | none => exact .inl ⟨_, rfl⟩
      | some xs =>
        have h1 := rtL_len _ _ _ h
        have h2 : t.data.toList.length = t.size := rfl
        exact .inr ⟨xs, 0, by omega, rfl⟩
set_option maxHeartbeats 4000000 in
theorem RunOfText_v (s : TGlyphSet) (t : ByteArray) {v : V} {bs : List Blk} (hres : ItRes (rtV s t) v bs) : PC Try.prog 7 [.d s.D, .d (.str t)] v bs := by
  refine pc_intro ttOk (by kernel_rfl) Try.func7 rfl (by kernel_rfl) (by kernel_rfl) (by kernel_rfl) (fun hw => ?_)
  have hs : t.size ≤ 9223372036854775807 := hw.2.1
  have c0 := ValidGlyphSet_v s
  unfold rtV at hres
  cases hg : gsB s with
  | false =>
    rw [hg, if_pos rfl] at hres
    obtain ⟨rfl, rfl⟩ := hres
    rw [hg] at c0
    (conv => whnf)
    (repeat' (first | (refine stg_ ?_) | (refine cla_ (c0) ?_) | (refine br_ (fun hbr => ?_) (fun hbr => ?_))))
    all_goals first | (exfalso; simp_all; done) | (refine ⟨⟨[], trivial, by decide, ⟨_, rfl, rfl, ⟨_, _, rfl, rfl, ⟨_, _, rfl, ⟨rfl, ?_⟩, rfl⟩⟩⟩⟩⟩; (conv => whnf))
    all_goals rfl
  | true =>
    rw [hg, if_neg (by simp)] at hres
    rw [hg] at c0
    by_cases h60 : 60 < t.size
    · rw [if_pos h60] at hres
      obtain ⟨rfl, rfl⟩ := hres
      (conv => whnf)
      (repeat' (first | (refine stg_ ?_) | (refine cla_ (c0) ?_) | (refine br_ (fun hbr => ?_) (fun hbr => ?_))))
      all_goals first | (exfalso; simp_all; done) | (exfalso; omega) | (refine ⟨⟨[], trivial, by decide, ⟨_, rfl, rfl, ⟨_, _, rfl, rfl, ⟨_, _, rfl, ⟨rfl, ?_⟩, rfl⟩⟩⟩⟩⟩; (conv => whnf))
      all_goals rfl
    rw [if_neg h60] at hres
    have hi : ItRes (match rtL s.fGlyphs 0 (t.data.toList.drop 0) with | some xs => (some xs, 0) | none => (none, 3)) v bs := by rw [List.drop_zero]; exact hres
    clear hres
    (conv => whnf)
    (repeat' (first | (refine stg_ ?_) | (refine cla_ (c0) ?_) | (refine br_ (fun hbr => ?_) (fun hbr => ?_))))
    all_goals first | (exfalso; simp_all; done) | (exfalso; omega) | skip
    clear c0
    refine LoopW.go (α := Nat × List TItem) (fun p => [(1, .d (.str t)), (2, .pB 1 [] 0), (6, .own 2 0 p.2.length), (7, .d (.int .i64 (p.1 : Nat)))]) (fun p => [.gone, .box (.d s.D), .arr 3 (p.2.map TItem.D) true]) (fun p => p.1 ≤ t.size ∧ p.2.length = p.1 ∧ rtL s.fGlyphs 0 (t.data.toList.drop 0) = (rtL s.fGlyphs p.1 (t.data.toList.drop p.1)).map (p.2 ++ ·)) (fun p => t.size - p.1) (0, []) (Weak.trans (Weak.adopt (k := 6) rfl 3 true) (Weak.cov ⟨rfl, rfl, rfl, rfl, trivial⟩ ⟨trivial, rfl, rfl, trivial⟩ rfl)) ⟨Nat.zero_le _, rfl, by simp⟩ ?_
    rintro ⟨k, xs⟩ ⟨i1, i2, i3⟩
    dsimp only at i1 i2 i3 ⊢
    have hX : (xs.map TItem.D).length = xs.length := List.length_map _
    rw [i3] at hi
    (conv => whnf)
    (refine br_ (fun h1 => ?_) (fun h1 => ?_) <;> (repeat (refine stg_ ?_)))
    · have hc := bget? (s := t) (k := k) (by omega)
      have hlt := (t[k]'(by omega)).toNat_lt
      rw [rtL_at (k := k) (by omega)] at i3 hi
      have c1 := glyphOfChar_v s ((t[k]'(by omega)).toNat : Int) (by omega)
      by_cases hf : 0 ≤ fdx (cdEq ((t[k]'(by omega)).toNat : Int)) s.fGlyphs 0
      · rw [if_pos hf] at i3 hi
        generalize hG : fdx (cdEq ((t[k]'(by omega)).toNat : Int)) s.fGlyphs 0 = G at *
        (repeat' (first | (refine stg_ ?_) | (refine cla_ (c1) ?_) | (refine br_ (fun hbr => ?_) (fun hbr => ?_))))
        all_goals first | (exfalso; omega) | skip
        refine NextW.go (k + 1, xs ++ [⟨G, k, 1⟩]) (Weak.cov ⟨rfl, rfl, by (show _ = V.own 2 0 (xs ++ [_]).length; rw [List.length_append]; rfl), rfl, trivial⟩ ⟨trivial, rfl, by (rw [List.take_of_length_le (by omega)]; show _ = Blk.arr 3 ((xs ++ [_]).map TItem.D) true; rw [List.map_append]; rfl), trivial⟩ rfl) ⟨by dsimp only; omega, by simp [i2], ?_⟩ (by dsimp only; omega)
        dsimp only
        rw [i3]
        cases rtL s.fGlyphs (k + 1) (t.data.toList.drop (k + 1)) with
        | none => rfl
        | some ys => simp
      · rw [if_neg hf] at hi
        obtain ⟨rfl, rfl⟩ := hi
        generalize hG : fdx (cdEq ((t[k]'(by omega)).toNat : Int)) s.fGlyphs 0 = G at *
        (repeat' (first | (refine stg_ ?_) | (refine cla_ (c1) ?_) | (refine br_ (fun hbr => ?_) (fun hbr => ?_))))
        all_goals first | (exfalso; omega) | (refine ⟨⟨[], trivial, by decide, ⟨_, rfl, rfl, ⟨_, _, rfl, rfl, ⟨_, _, rfl, ⟨rfl, ?_⟩, rfl⟩⟩⟩⟩⟩; (conv => whnf))
        all_goals rfl
    · rw [rtL_end (by omega)] at hi
      simp only [Option.map_some, List.append_nil] at hi
      obtain ⟨rfl, rfl⟩ := hi
      (repeat' (first | (refine stg_ ?_) | fail | (refine br_ (fun hbr => ?_) (fun hbr => ?_))))
      (refine ⟨⟨[some 2], ⟨by decide, ?_, trivial, trivial⟩, by decide, ⟨_, rfl, rfl, ⟨_, _, rfl, ⟨by decide, ?_⟩, ⟨_, _, rfl, ⟨rfl, ?_⟩, rfl⟩⟩⟩⟩⟩)
      all_goals rfl
set_option maxHeartbeats 4000000 in
theorem l26OfText_v (s : TGlyphSet) (t : ByteArray) (hg : gsB s = true) {v : V} {bs : List Blk} (hres : ItRes (rtV s t) v bs) : PC Try.prog 15 [.pX s.D, .d (.str t)] v bs := by
  refine pc_intro ttOk (by kernel_rfl) Try.func15 rfl (by kernel_rfl) (by kernel_rfl) (by kernel_rfl) (fun hw => ?_)
  have hs : t.size ≤ 9223372036854775807 := hw.2.1
  unfold rtV at hres
  rw [hg, if_neg (by simp)] at hres
  by_cases h60 : 60 < t.size
  · rw [if_pos h60] at hres
    obtain ⟨rfl, rfl⟩ := hres
    (conv => whnf)
    (repeat' (first | (refine stg_ ?_) | fail | (refine br_ (fun hbr => ?_) (fun hbr => ?_))))
    all_goals first | (exfalso; omega) | (refine ⟨⟨[], trivial, by decide, ⟨_, rfl, rfl, ⟨_, _, rfl, rfl, ⟨_, _, rfl, ⟨rfl, ?_⟩, rfl⟩⟩⟩⟩⟩; (conv => whnf))
    all_goals rfl
  rw [if_neg h60] at hres
  have hi : ItRes (match rtL s.fGlyphs 0 (t.data.toList.drop 0) with | some xs => (some xs, 0) | none => (none, 3)) v bs := by rw [List.drop_zero]; exact hres
  clear hres
  (conv => whnf)
  (repeat' (first | (refine stg_ ?_) | fail | (refine br_ (fun hbr => ?_) (fun hbr => ?_))))
  all_goals first | (exfalso; omega) | skip
  refine LoopW.go (α := Nat × List TItem) (fun p => [(0, .pX s.D), (1, .d (.str t)), (6, .own 1 0 p.2.length), (7, .d (.int .i64 (p.1 : Nat)))]) (fun p => [.gone, .arr 3 (p.2.map TItem.D) true]) (fun p => p.1 ≤ t.size ∧ p.2.length = p.1 ∧ rtL s.fGlyphs 0 (t.data.toList.drop 0) = (rtL s.fGlyphs p.1 (t.data.toList.drop p.1)).map (p.2 ++ ·)) (fun p => t.size - p.1) (0, []) covT_ ⟨Nat.zero_le _, rfl, by simp⟩ ?_
  rintro ⟨k, xs⟩ ⟨i1, i2, i3⟩
  dsimp only at i1 i2 i3 ⊢
  have hX : (xs.map TItem.D).length = xs.length := List.length_map _
  rw [i3] at hi
  (conv => whnf)
  (refine br_ (fun h1 => ?_) (fun h1 => ?_) <;> (repeat (refine stg_ ?_)))
  · have hc := bget? (s := t) (k := k) (by omega)
    have hlt := (t[k]'(by omega)).toNat_lt
    rw [rtL_at (k := k) (by omega)] at i3 hi
    have c1 := l17OfChar_v s ((t[k]'(by omega)).toNat : Int) (by omega)
    by_cases hf : 0 ≤ fdx (cdEq ((t[k]'(by omega)).toNat : Int)) s.fGlyphs 0
    · rw [if_pos hf] at i3 hi
      generalize hG : fdx (cdEq ((t[k]'(by omega)).toNat : Int)) s.fGlyphs 0 = G at *
      (repeat' (first | (refine stg_ ?_) | (refine cla_ (c1) ?_) | (refine br_ (fun hbr => ?_) (fun hbr => ?_))))
      all_goals first | (exfalso; omega) | skip
      refine NextW.go (k + 1, xs ++ [⟨G, k, 1⟩]) (Weak.cov ⟨rfl, rfl, by (show _ = V.own 1 0 (xs ++ [_]).length; rw [List.length_append]; rfl), rfl, trivial⟩ ⟨trivial, by (rw [List.take_of_length_le (by omega)]; show _ = Blk.arr 3 ((xs ++ [_]).map TItem.D) true; rw [List.map_append]; rfl), trivial⟩ rfl) ⟨by dsimp only; omega, by simp [i2], ?_⟩ (by dsimp only; omega)
      dsimp only
      rw [i3]
      cases rtL s.fGlyphs (k + 1) (t.data.toList.drop (k + 1)) with
      | none => rfl
      | some ys => simp
    · rw [if_neg hf] at hi
      obtain ⟨rfl, rfl⟩ := hi
      generalize hG : fdx (cdEq ((t[k]'(by omega)).toNat : Int)) s.fGlyphs 0 = G at *
      (repeat' (first | (refine stg_ ?_) | (refine cla_ (c1) ?_) | (refine br_ (fun hbr => ?_) (fun hbr => ?_))))
      all_goals first | (exfalso; omega) | (refine ⟨⟨[], trivial, by decide, ⟨_, rfl, rfl, ⟨_, _, rfl, rfl, ⟨_, _, rfl, ⟨rfl, ?_⟩, rfl⟩⟩⟩⟩⟩; (conv => whnf))
      all_goals rfl
  · rw [rtL_end (by omega)] at hi
    simp only [Option.map_some, List.append_nil] at hi
    obtain ⟨rfl, rfl⟩ := hi
    (repeat' (first | (refine stg_ ?_) | fail | (refine br_ (fun hbr => ?_) (fun hbr => ?_))))
    (refine ⟨⟨[some 1], ⟨by decide, ?_, trivial, trivial⟩, by decide, ⟨_, rfl, rfl, ⟨_, _, rfl, ⟨by decide, ?_⟩, ⟨_, _, rfl, ⟨rfl, ?_⟩, rfl⟩⟩⟩⟩⟩)
    all_goals rfl
theorem specRunOfText_v (s : TGlyphSet) (t : ByteArray) {v : V} {bs : List Blk} (hres : ItRes (rtV s t) v bs) : PC Try.prog 5 [.d s.D, .d (.str t)] v bs := by
  refine pc_intro ttOk (by kernel_rfl) Try.func5 rfl (by kernel_rfl) (by kernel_rfl) (by kernel_rfl) (fun hw => ?_)
  have c0 := l17Ok_v s
  cases hg : gsB s with
  | false =>
    rw [hg] at c0
    unfold rtV at hres
    rw [hg, if_pos rfl] at hres
    obtain ⟨rfl, rfl⟩ := hres
    (conv => whnf)
    (repeat' (first | (refine stg_ ?_) | (refine cla_ (c0) ?_) | (refine br_ (fun hbr => ?_) (fun hbr => ?_))))
    all_goals first | (exfalso; simp_all; done) | (refine ⟨⟨[], trivial, by decide, ⟨_, rfl, rfl, ⟨_, _, rfl, rfl, ⟨_, _, rfl, ⟨rfl, ?_⟩, rfl⟩⟩⟩⟩⟩; (conv => whnf))
    all_goals rfl
  | true =>
    rw [hg] at c0
    have c1 := fun {v bs} h => l26OfText_v s t hg (v := v) (bs := bs) h
    rcases rtV_cases s t with ⟨c, h⟩ | ⟨xs, c, hl, h⟩
    · rw [h] at hres
      obtain ⟨rfl, rfl⟩ := hres
      have c2 := c1 (v := .tup [.nils, .d (.int .i64 c)]) (bs := []) (by rw [h]; exact ⟨rfl, rfl⟩)
      (conv => whnf)
      (repeat' (first | (refine stg_ ?_) | (refine cla_ (c0) ?_) | (refine cla_ (c2) ?_) | (refine br_ (fun hbr => ?_) (fun hbr => ?_))))
      all_goals first | (exfalso; simp_all; done) | (refine ⟨⟨[], trivial, by decide, ⟨_, rfl, rfl, ⟨_, _, rfl, rfl, ⟨_, _, rfl, ⟨rfl, ?_⟩, rfl⟩⟩⟩⟩⟩; (conv => whnf))
      all_goals rfl
    · rw [h] at hres
      obtain ⟨rfl, rfl⟩ := hres
      have c2 := c1 (v := .tup [.own 1 0 xs.length, .d (.int .i64 c)]) (bs := [.arr 3 (xs.map TItem.D) true]) (by rw [h]; exact ⟨rfl, rfl⟩)
      (conv => whnf)
      (repeat' (first | (refine stg_ ?_) | (refine cla_ (c0) ?_) | (refine cla_ (c2) ?_) | (refine br_ (fun hbr => ?_) (fun hbr => ?_))))
      all_goals first | (exfalso; simp_all; done) | skip
      (refine ⟨⟨[some 2], ⟨by decide, ?_, trivial, trivial⟩, by decide, ⟨_, rfl, rfl, ⟨_, _, rfl, ⟨by decide, ?_⟩, ⟨_, _, rfl, ⟨rfl, ?_⟩, rfl⟩⟩⟩⟩⟩)
      all_goals rfl
end Go.Proofs.Ytfnnlipcclklnaa

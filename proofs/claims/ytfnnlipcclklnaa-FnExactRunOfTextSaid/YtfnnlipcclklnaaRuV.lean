/- Runs of texts: both sides, by the machine. -/
import Derived.Test.YtfnnlipcclklnaaGsZ
set_option linter.unusedSimpArgs false
set_option linter.unusedVariables false
namespace Go.Proofs.Ytfnnlipcclklnaa
open Go.RowKit
def cdEq (c : Int) (g : TGlyph) : Bool := g.fCode == c
/-- the run of some bytes, the first of them at a place; none if a byte has no glyph -/
def rtL (gs : List TGlyph) : Nat → List UInt8 → Option (List TItem)
  | _, [] => some []
  | k, c :: cs => if 0 ≤ fdx (cdEq c.toNat) gs 0 then (match rtL gs (k + 1) cs with
    | some xs => some (⟨fdx (cdEq c.toNat) gs 0, k, 1⟩ :: xs)
    | none => none) else none
set_option maxHeartbeats 1000000 in
theorem ixGlyphp_v (xs : List TGlyph) (f : Nat) (y0 : D) (p : TGlyph → Bool) (hf : ∀ x : TGlyph, PC Try.prog f [.d x.D, .pX y0] (.d (.bool (p x))) []) :
    PC Try.prog 31 [.d (.lst (xs.map TGlyph.D)), .fn (.func f) [.pX y0]] (.d (.int .i64 (fdx p xs 0))) [] := by
  refine pc_intro ttOk (by kernel_rfl) Try.func31 rfl (by kernel_rfl) (by kernel_rfl) (by kernel_rfl) (fun hw => ?_)
  have hL : (xs.map TGlyph.D).length = xs.length := List.length_map _
  have hm : (xs.map TGlyph.D).length ≤ 9223372036854775807 := hw.1.1
  (conv => whnf)
  refine LoopW.go (α := Nat) (fun k => [(0, .d (.lst (xs.map TGlyph.D))), (1, .fn (.func f) [.pX y0]), (7, .d (.int .i64 (xs.map TGlyph.D).length)), (8, .d (.int .i64 k))]) (fun k => [.gone]) (fun k => k ≤ xs.length ∧ fdx p xs 0 = fdx p (xs.drop k) k) (fun k => xs.length - k) 0 covT_ ?_ (fun k hk => ?_)
  · exact ⟨by omega, rfl⟩
  obtain ⟨hk1, hk2⟩ := hk
  (conv => whnf)
  (refine br_ (fun h2 => ?_) (fun h2 => ?_) <;> (repeat (refine stg_ ?_)))
  · obtain ⟨x, hx⟩ := at_lt' (xs := xs) (k := k) (by omega)
    rw [fdx_at hx] at hk2
    (repeat (refine stg_ ?_))
    (refine cla_ (hf x) ?_)
    (refine br_ (fun h3 => ?_) (fun h3 => ?_) <;> (repeat (refine stg_ ?_)))
    · (refine RetOK.d rfl rfl ?_; conv => whnf)
      rw [hk2, if_pos h3]
    · (repeat (refine stg_ ?_))
      exact NextW.go (k + 1) covT_ ⟨by omega, by rw [hk2, h3]; rfl⟩ (by omega)
  · (refine RetOK.d rfl rfl ?_; conv => whnf)
    rw [hk2, fdx_end (by omega)]

theorem glyphOfChar1_v (x : TGlyph) (c : Int) : PC Try.prog 32 [.d x.D, .pX (.int .i64 c)] (.d (.bool (cdEq c x))) [] := by
  refine pc_intro ttOk (by kernel_rfl) Try.func32 rfl (by kernel_rfl) (by kernel_rfl) (by kernel_rfl) (fun hw => ?_)
  (conv => whnf)
  (refine RetOK.d rfl rfl ?_; conv => whnf)
  rfl
theorem glyphOfChar_v (s : TGlyphSet) (c : Int) (h0 : 0 ≤ c) : PC Try.prog 18 [.d s.D, .d (.int .i64 c)] (.d (.int .i64 (fdx (cdEq c) s.fGlyphs 0))) [] := by
  refine pc_intro ttOk (by kernel_rfl) Try.func18 rfl (by kernel_rfl) (by kernel_rfl) (by kernel_rfl) (fun hw => ?_)
  (conv => whnf)
  (repeat' (first | (refine stg_ ?_) | (refine cla_ (ixGlyphp_v s.fGlyphs _ (.int .i64 c) (cdEq c) (fun x => glyphOfChar1_v x c)) ?_) | (refine br_ (fun hbr => ?_) (fun hbr => ?_))))
  all_goals first | (exfalso; omega) | (refine RetOK.d rfl rfl ?_; conv => whnf)
theorem l17OfChar_v (s : TGlyphSet) (c : Int) (h0 : 0 ≤ c) : PC Try.prog 27 [.pX s.D, .d (.int .i64 c)] (.d (.int .i64 (fdx (cdEq c) s.fGlyphs 0))) [] := by
  refine pc_intro ttOk (by kernel_rfl) Try.func27 rfl (by kernel_rfl) (by kernel_rfl) (by kernel_rfl) (fun hw => ?_)
  have hL : (s.fGlyphs.map TGlyph.D).length = s.fGlyphs.length := List.length_map _
  have hm : (s.fGlyphs.map TGlyph.D).length ≤ 9223372036854775807 := hw.1.2.1.1
  (conv => whnf)
  refine LoopW.go (α := Nat) (fun k => [(0, .pX s.D), (1, .d (.int .i64 c)), (5, .d (.int .i64 k))]) (fun k => [.gone]) (fun k => k ≤ s.fGlyphs.length ∧ fdx (cdEq c) s.fGlyphs 0 = fdx (cdEq c) (s.fGlyphs.drop k) k) (fun k => s.fGlyphs.length - k) 0 covT_ ?_ (fun k hk => ?_)
  · exact ⟨by omega, rfl⟩
  obtain ⟨hk1, hk2⟩ := hk
  (conv => whnf)
  (repeat (refine stg_ ?_))
  (refine br_ (fun h2 => ?_) (fun h2 => ?_) <;> (repeat (refine stg_ ?_)))
  · obtain ⟨x, hx⟩ := at_lt' (xs := s.fGlyphs) (k := k) (by omega)
    rw [fdx_at hx] at hk2
    have hx' : (s.fGlyphs.map TGlyph.D)[k]? = some x.D := by rw [List.getElem?_map, hx]; rfl
    (repeat' (first | (refine stg_ ?_) | fail | (refine br_ (fun hbr => ?_) (fun hbr => ?_))))
    all_goals first | (exfalso; omega) | ((refine RetOK.d rfl rfl ?_; conv => whnf); rw [hk2, if_pos (by simp_all [cdEq])]; done) | (exact NextW.go (k + 1) covT_ ⟨by omega, by rw [hk2, if_neg (by simp_all [cdEq])]⟩ (by omega))
  · (refine RetOK.d rfl rfl ?_; conv => whnf)
    rw [hk2, fdx_end (by omega)]
end Go.Proofs.Ytfnnlipcclklnaa

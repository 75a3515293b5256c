/- The binary form of an outline: plain law. Leans on no program. -/
import Derived.Test.YtcachhipflibkaaGreatWdV
import Derived.Test.YtcachhipflibkaaGreatGen
set_option linter.unusedSimpArgs false
set_option linter.unusedVariables false
namespace Go.Proofs.YtcachhipflibkaaGreat
open Go.RowKit
def kdN (d : Int) : Int := if d = 0 then 0 else if 1 ≤ d ∧ d ≤ 255 then 1 else if -255 ≤ d ∧ d ≤ -1 then 2 else 3
theorem kdN_le (d : Int) : 0 ≤ kdN d ∧ kdN d ≤ 3 := by unfold kdN; split <;> (try split) <;> (try split) <;> omega
/-- how a difference is written -/
def pdL (d : Int) : List UInt8 := if kdN d = 1 then wdL 1 d else if kdN d = 2 then wdL 1 (0 - d) else if kdN d = 3 then wdL 3 d else []
theorem pdL_len (d : Int) : (pdL d).length ≤ 3 := by unfold pdL; split <;> (try split) <;> (try split) <;> simp [wdL_len]
def flN (k : TKnot) (p : TPt) : Int := (if k.fOn = true then 1 else 0) + 2 * kdN (k.fAt.fX - p.fX) + 8 * kdN (k.fAt.fY - p.fY)
theorem flN_le (k : TKnot) (p : TPt) : 0 ≤ flN k p ∧ flN k p ≤ 31 := by
  have a := kdN_le (k.fAt.fX - p.fX)
  have b := kdN_le (k.fAt.fY - p.fY)
  unfold flN; split <;> omega
def stL : TPt → List TKnot → List TPt
  | _, [] => []
  | p, k :: t => ⟨k.fAt.fX - p.fX, k.fAt.fY - p.fY⟩ :: stL k.fAt t
def fgL : TPt → List TKnot → List Int
  | _, [] => []
  | p, k :: t => flN k p :: fgL k.fAt t
def endK : TPt → List TKnot → TPt
  | p, [] => p
  | _, k :: t => endK k.fAt t
theorem stL_snoc : ∀ (p : TPt) (ks : List TKnot) (k : TKnot), stL p (ks ++ [k]) = stL p ks ++ [⟨k.fAt.fX - (endK p ks).fX, k.fAt.fY - (endK p ks).fY⟩]
  | p, [], k => rfl
  | p, x :: t, k => by simp only [List.cons_append, stL, endK, stL_snoc x.fAt t k]
theorem fgL_snoc : ∀ (p : TPt) (ks : List TKnot) (k : TKnot), fgL p (ks ++ [k]) = fgL p ks ++ [flN k (endK p ks)]
  | p, [], k => rfl
  | p, x :: t, k => by simp only [List.cons_append, fgL, endK, fgL_snoc x.fAt t k]
theorem endK_snoc : ∀ (p : TPt) (ks : List TKnot) (k : TKnot), endK p (ks ++ [k]) = k.fAt
  | p, [], k => rfl
  | p, x :: t, k => by simp only [List.cons_append, endK, endK_snoc x.fAt t k]
theorem stL_len : ∀ (p : TPt) (ks : List TKnot), (stL p ks).length = ks.length
  | p, [] => rfl
  | p, x :: t => by simp only [stL, List.length_cons, stL_len x.fAt t]
theorem fgL_len : ∀ (p : TPt) (ks : List TKnot), (fgL p ks).length = ks.length
  | p, [] => rfl
  | p, x :: t => by simp only [fgL, List.length_cons, fgL_len x.fAt t]
theorem fgL_le : ∀ (p : TPt) (ks : List TKnot), ∀ x ∈ fgL p ks, 0 ≤ x ∧ x ≤ 31
  | p, [], x, h => by simp [fgL] at h
  | p, k :: t, x, h => by
    rw [fgL, List.mem_cons] at h
    rcases h with rfl | h
    · exact flN_le k p
    · exact fgL_le k.fAt t x h
/-- how many at the front are x -/
def runN (x : Int) : List Int → Nat
  | [] => 0
  | y :: t => if y = x then runN x t + 1 else 0
theorem runN_le (x : Int) : ∀ xs, runN x xs ≤ xs.length
  | [] => Nat.le_refl _
  | y :: t => by
    have := runN_le x t
    rw [runN]; split <;> simp <;> omega
theorem runN_at {x y : Int} {xs : List Int} {k : Nat} (h : xs[k]? = some y) : runN x (xs.drop k) = if y = x then runN x (xs.drop (k + 1)) + 1 else 0 := by
  rw [drop_at h, runN]
theorem runN_end {x : Int} {xs : List Int} {k : Nat} (h : xs.length ≤ k) : runN x (xs.drop k) = 0 := by
  rw [List.drop_eq_nil_of_le h]; rfl
/-- equal ones together -/
def rle : Nat → List Int → List UInt8
  | 0, _ => []
  | _ + 1, [] => []
  | f + 1, x :: t => (if runN x t = 0 then wdL 1 x else wdL 1 (x + 128) ++ wdL 1 (runN x t : Nat)) ++ rle f (t.drop (runN x t))
theorem rle_fuel : ∀ (f g : Nat) (xs : List Int), xs.length ≤ f → xs.length ≤ g → rle f xs = rle g xs
  | 0, 0, _, _, _ => rfl
  | 0, g + 1, [], _, _ => rfl
  | f + 1, 0, [], _, _ => rfl
  | 0, g + 1, x :: t, h, _ => by simp at h
  | f + 1, 0, x :: t, _, h => by simp at h
  | f + 1, g + 1, [], _, _ => rfl
  | f + 1, g + 1, x :: t, h1, h2 => by
    simp only [List.length_cons] at h1 h2
    rw [rle, rle, rle_fuel f g (t.drop (runN x t)) (by simp; omega) (by simp; omega)]
theorem rle_at {xs : List Int} {i : Nat} {x : Int} (h : xs[i]? = some x) : rle xs.length (xs.drop i) = (if runN x (xs.drop (i + 1)) = 0 then wdL 1 x else wdL 1 (x + 128) ++ wdL 1 (runN x (xs.drop (i + 1)) : Nat)) ++ rle xs.length (xs.drop (i + 1 + runN x (xs.drop (i + 1)))) := by
  have hl := (List.getElem?_eq_some_iff.1 h).1
  obtain ⟨n, hn⟩ : ∃ n, xs.length = n + 1 := ⟨xs.length - 1, by omega⟩
  rw [drop_at h, hn, rle, List.drop_drop, rle_fuel n (n + 1)]
  · simp; omega
  · simp; omega
theorem rle_end {xs : List Int} {i : Nat} (h : xs.length ≤ i) : rle xs.length (xs.drop i) = [] := by
  rw [List.drop_eq_nil_of_le h]; cases xs.length <;> rfl
theorem rle_len : ∀ (f : Nat) (xs : List Int), (rle f xs).length ≤ 2 * xs.length
  | 0, _ => by simp [rle]
  | f + 1, [] => by simp [rle]
  | f + 1, x :: t => by
    have h := rle_len f (t.drop (runN x t))
    rw [List.length_drop] at h
    rw [rle, List.length_append, List.length_cons]
    split
    · rw [wdL_len]; omega
    · rw [List.length_append, wdL_len, wdL_len]; omega
def xsL (f : TPt → Int) (ds : List TPt) : List UInt8 := ds.flatMap (fun d => pdL (f d))
theorem xsL_snoc (f : TPt → Int) (ds : List TPt) (d : TPt) : xsL f (ds ++ [d]) = xsL f ds ++ pdL (f d) := by simp [xsL]
theorem xsL_at (f : TPt → Int) {ds : List TPt} {k : Nat} {d : TPt} (h : ds[k]? = some d) : xsL f (ds.take (k + 1)) = xsL f (ds.take k) ++ pdL (f d) := by
  rw [take_snoc_get h, xsL_snoc]
theorem xsL_len (f : TPt → Int) : ∀ ds : List TPt, (xsL f ds).length ≤ 3 * ds.length
  | [] => by simp [xsL]
  | d :: t => by
    have h1 := xsL_len f t
    have h2 := pdL_len (f d)
    simp only [xsL, List.flatMap_cons, List.length_append, List.length_cons] at *
    omega
def lpE2 (p : TPt) (l : TLoop) : List UInt8 := wdL 1 (l.fKnots.length : Nat) ++ rle (fgL p l.fKnots).length (fgL p l.fKnots) ++ xsL TPt.fX (stL p l.fKnots) ++ xsL TPt.fY (stL p l.fKnots)
theorem lpE2_len (p : TPt) (l : TLoop) : (lpE2 p l).length ≤ 1 + 8 * l.fKnots.length := by
  have h1 := rle_len (fgL p l.fKnots).length (fgL p l.fKnots)
  have h2 := xsL_len TPt.fX (stL p l.fKnots)
  have h3 := xsL_len TPt.fY (stL p l.fKnots)
  rw [fgL_len] at h1
  rw [stL_len] at h2 h3
  simp only [lpE2, List.length_append, wdL_len, fgL_len]
  omega
/-- the loops' forms, and the last point -/
def enL : TPt → List TLoop → List UInt8
  | _, [] => []
  | p, l :: t => lpE2 p l ++ enL (endK p l.fKnots) t
def enP : TPt → List TLoop → TPt
  | p, [] => p
  | p, l :: t => enP (endK p l.fKnots) t
theorem enL_snoc : ∀ (p : TPt) (ls : List TLoop) (l : TLoop), enL p (ls ++ [l]) = enL p ls ++ lpE2 (enP p ls) l
  | p, [], l => by simp [enL, enP]
  | p, x :: t, l => by simp only [List.cons_append, enL, enP, enL_snoc _ t l, List.append_assoc]
theorem enP_snoc : ∀ (p : TPt) (ls : List TLoop) (l : TLoop), enP p (ls ++ [l]) = endK (enP p ls) l.fKnots
  | p, [], l => rfl
  | p, x :: t, l => by simp only [List.cons_append, enP, enP_snoc _ t l]
def pt0 : TPt := ⟨0, 0⟩
def otL (o : TOutline) : List UInt8 := wdL 1 (o.fLoops.length : Nat) ++ enL pt0 o.fLoops
def pntB (p : TPt) : Bool := inB p.fX (-262144) 262144 && inB p.fY (-262144) 262144
def loopB (l : TLoop) : Bool := decide (1 ≤ l.fKnots.length) && (decide (l.fKnots.length ≤ 60) && (((l.fKnots[0]?).map (·.fOn)).getD false && l.fKnots.all (fun k => pntB k.fAt)))
def outB (o : TOutline) : Bool := decide (o.fLoops.length ≤ 12) && o.fLoops.all loopB
theorem pnt_in {p : TPt} (h : pntB p = true) : -262144 ≤ p.fX ∧ p.fX ≤ 262144 ∧ -262144 ≤ p.fY ∧ p.fY ≤ 262144 := by
  simp only [pntB, inB, Bool.and_eq_true, decide_eq_true_eq] at h; omega
theorem loop_in {l : TLoop} (h : loopB l = true) : 1 ≤ l.fKnots.length ∧ l.fKnots.length ≤ 60 ∧ ∀ k ∈ l.fKnots, pntB k.fAt = true := by
  simp only [loopB, Bool.and_eq_true, decide_eq_true_eq, List.all_eq_true] at h
  exact ⟨h.1, h.2.1, h.2.2.2⟩
theorem out_in {o : TOutline} (h : outB o = true) : o.fLoops.length ≤ 12 ∧ ∀ l ∈ o.fLoops, loopB l = true := by
  simp only [outB, Bool.and_eq_true, decide_eq_true_eq, List.all_eq_true] at h
  exact h
theorem endK_in : ∀ {p : TPt} {ks : List TKnot}, pntB p = true → (∀ k ∈ ks, pntB k.fAt = true) → pntB (endK p ks) = true
  | p, [], h, _ => h
  | p, k :: t, _, h => by
    show pntB (endK k.fAt t) = true
    exact endK_in (h k (by simp)) (fun x hx => h x (by simp [hx]))
theorem enP_in : ∀ {p : TPt} {ls : List TLoop}, pntB p = true → (∀ l ∈ ls, loopB l = true) → pntB (enP p ls) = true
  | p, [], h, _ => h
  | p, l :: t, hp, h => by
    show pntB (enP (endK p l.fKnots) t) = true
    exact enP_in (endK_in hp (loop_in (h l (by simp))).2.2) (fun x hx => h x (by simp [hx]))
theorem enL_len : ∀ {p : TPt} {ls : List TLoop}, (∀ l ∈ ls, loopB l = true) → (enL p ls).length ≤ 481 * ls.length
  | p, [], _ => by simp [enL]
  | p, l :: t, h => by
    have h1 := lpE2_len p l
    have h2 := (loop_in (h l (by simp))).2.1
    have h3 := enL_len (p := endK p l.fKnots) (ls := t) (fun x hx => h x (by simp [hx]))
    simp only [enL, List.length_append, List.length_cons]
    omega
theorem stL_in : ∀ {p : TPt} {ks : List TKnot}, pntB p = true → (∀ k ∈ ks, pntB k.fAt = true) → ∀ d ∈ stL p ks, (-524288 ≤ d.fX ∧ d.fX ≤ 524288) ∧ -524288 ≤ d.fY ∧ d.fY ≤ 524288
  | p, [], _, _, d, hd => by simp [stL] at hd
  | p, k :: t, hp, h, d, hd => by
    have h1 := pnt_in hp
    have h2 := pnt_in (h k (by simp))
    rw [stL, List.mem_cons] at hd
    rcases hd with rfl | hd
    · simp only; omega
    · exact stL_in (h k (by simp)) (fun x hx => h x (by simp [hx])) d hd
theorem pt0_in : pntB pt0 = true := by decide
theorem mem_take' {α : Type} {xs : List α} {P : α → Prop} (h : ∀ x ∈ xs, P x) (k : Nat) : ∀ x ∈ xs.take k, P x := fun x hx => h x (List.mem_of_mem_take hx)
theorem wdL1 {x : Int} (h0 : 0 ≤ x) (h1 : x < 256) : wdL 1 x = [UInt8.ofNat x.toNat] := by
  rw [wdL, wdL, Int.emod_eq_of_lt h0 h1]; rfl
theorem u8_nat {x : Int} (h0 : 0 ≤ x) (h1 : x < 256) : ((UInt8.ofNat x.toNat).toNat : Int) = x := by
  rw [UInt8.toNat_ofNat']; omega
end Go.Proofs.YtcachhipflibkaaGreat

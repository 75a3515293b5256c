/- merged: several parts in one text. Leans on no more than they do. -/
import Derived.Test.YtiflbcjabifpmaaLVBase
import Derived.Test.YtiflbcjabifpmaaLV
import Derived.Test.YtiflbcjabifpmaaVMTac
import Derived.Test.YtiflbcjabifpmaaTT
set_option linter.unusedSimpArgs false
set_option linter.unusedVariables false
namespace Go.Proofs.Ytiflbcjabifpmaa
open Go.RowKit
def ltI : Option Int → Int → Bool
  | none, _ => true
  | some q, x => decide (q < x)
def riG : Option Int → List Int → Bool
  | _, [] => true
  | o, x :: t => ltI o x && riG (some x) t
def pvI (xs : List Int) (k : Nat) : Option Int := match k with | 0 => none | k + 1 => xs[k]?
theorem riG_at {xs : List Int} {k : Nat} {x : Int} (hx : xs[k]? = some x) : riG (pvI xs k) (xs.drop k) = (ltI (pvI xs k) x && riG (pvI xs (k + 1)) (xs.drop (k + 1))) := by
  rw [drop_at hx, riG, pvI, hx]
theorem pvI_pos {xs : List Int} {k : Nat} {x : Int} (h : 0 < k) (hx : xs[k - 1]? = some x) : pvI xs k = some x := by
  obtain ⟨j, rfl⟩ : ∃ j, k = j + 1 := ⟨k - 1, by omega⟩
  exact hx
theorem riG_end {xs : List Int} {k : Nat} {o : Option Int} (hk : xs.length ≤ k) : riG o (xs.drop k) = true := by
  rw [List.drop_eq_nil_of_le hk]; rfl
theorem riG_lt : ∀ {xs : List Int} {q : Int}, riG (some q) xs = true → ∀ x ∈ xs, q < x
  | [], _, _, x, h => by simp at h
  | y :: t, q, h, x, hx => by
    simp only [riG, ltI, Bool.and_eq_true, decide_eq_true_eq] at h
    rcases List.mem_cons.1 hx with rfl | hx
    · exact h.1
    · have := riG_lt h.2 x hx
      omega
theorem riG_last : ∀ {xs : List Int} {o : Option Int} {z : Int}, riG o xs = true → xs[xs.length - 1]? = some z → ∀ x ∈ xs, x ≤ z
  | [], _, _, _, _, x, h => by simp at h
  | [y], o, z, _, hz, x, hx => by simp at hz hx; omega
  | y :: w :: t, o, z, h, hz, x, hx => by
    rw [riG, Bool.and_eq_true] at h
    have hz' : (w :: t)[(w :: t).length - 1]? = some z := by simpa using hz
    have ih := riG_last (xs := w :: t) h.2 hz'
    rcases List.mem_cons.1 hx with rfl | hx
    · have h1 := riG_lt h.2 w (by simp)
      have h2 := ih w (by simp)
      omega
    · exact ih x hx
theorem riG_first {xs : List Int} {a : Int} (h : riG none xs = true) (ha : xs[0]? = some a) : ∀ x ∈ xs, a ≤ x := by
  cases xs with
  | nil => simp at ha
  | cons y t =>
    simp at ha
    subst ha
    intro x hx
    rw [riG, Bool.and_eq_true] at h
    rcases List.mem_cons.1 hx with rfl | hx
    · exact Int.le_refl _
    · have := riG_lt h.2 x hx
      omega
def srt (xs : List Int) : Prop := ∀ (i j : Nat) (x y : Int), i < j → xs[i]? = some x → xs[j]? = some y → x < y
theorem ri_srt : ∀ {o : Option Int} {xs : List Int}, riG o xs = true → srt xs
  | _, [], _ => fun i j x y _ h _ => by simp at h
  | o, z :: t, h => by
    simp only [riG, Bool.and_eq_true] at h
    intro i j x y hij hi hj
    cases j with
    | zero => omega
    | succ j =>
      cases i with
      | zero =>
        simp at hi hj
        subst hi
        exact riG_lt h.2 y (List.mem_of_getElem? hj)
      | succ i => exact ri_srt h.2 i j x y (by omega) (by simpa using hi) (by simpa using hj)
theorem srt_take {xs : List Int} (h : srt xs) (n : Nat) : srt (xs.take n) := fun i j x y hij hi hj => by
  rw [List.getElem?_take] at hi hj
  split at hi
  · split at hj
    · exact h i j x y hij hi hj
    · cases hj
  · cases hi
theorem srt_drop {xs : List Int} (h : srt xs) (n : Nat) : srt (xs.drop n) := fun i j x y hij hi hj => by
  rw [List.getElem?_drop] at hi hj
  exact h _ _ x y (by omega) hi hj
def cl (xs : List Int) (b : Int) : Nat := (xs.takeWhile (fun x => decide (x < b))).length
theorem cl_le (xs : List Int) (b : Int) : cl xs b ≤ xs.length := by
  unfold cl
  exact (List.takeWhile_sublist _).length_le
theorem cl_lt : ∀ {xs : List Int} {b : Int} {j : Nat} {x : Int}, j < cl xs b → xs[j]? = some x → x < b
  | [], b, j, x, h, _ => by simp [cl] at h
  | y :: t, b, j, x, h, hx => by
    unfold cl at h
    rw [List.takeWhile_cons] at h
    split at h
    · rename_i hy
      cases j with
      | zero => simp at hx; subst hx; simpa using hy
      | succ j => exact cl_lt (xs := t) (by unfold cl; simpa using h) (by simpa using hx)
    · simp at h
theorem cl_at : ∀ {xs : List Int} {b : Int} {x : Int}, xs[cl xs b]? = some x → b ≤ x
  | [], b, x, h => by simp [cl] at h
  | y :: t, b, x, h => by
    unfold cl at h
    rw [List.takeWhile_cons] at h
    split at h
    · exact cl_at (xs := t) (by unfold cl; simpa using h)
    · rename_i hy
      simp at h hy
      subst h
      exact hy
theorem cl_ge {xs : List Int} (hs : srt xs) {b : Int} {j : Nat} {x : Int} (h : cl xs b ≤ j) (hx : xs[j]? = some x) : b ≤ x := by
  have hj := (List.getElem?_eq_some_iff.1 hx).1
  obtain ⟨y, hy⟩ := at_lt (xs := xs) (k := cl xs b) (by omega)
  have h1 := cl_at hy
  rcases Nat.lt_or_ge (cl xs b) j with h2 | h2
  · have := hs _ _ y x h2 hy hx; omega
  · obtain rfl : j = cl xs b := by omega
    rw [hx] at hy; cases hy; exact h1
theorem cl_mono {xs : List Int} (hs : srt xs) {a b : Int} (h : a ≤ b) : cl xs a ≤ cl xs b := by
  rcases Nat.lt_or_ge (cl xs b) (cl xs a) with h1 | h1
  · have := cl_le xs a
    obtain ⟨y, hy⟩ := at_lt (xs := xs) (k := cl xs b) (by omega)
    have h2 := cl_lt h1 hy
    have h3 := cl_at hy
    omega
  · exact h1
def fd (xs : List Int) (b : Int) : Bool := xs[cl xs b]? == some b
def bt0 (x a b c d : Int) : Int := if a = b then (if c = d then c else 0) else if x ≤ a then c else if b ≤ x then d else c + divR ((x - a) * (d - c)) (b - a)
def bt (x a b c d : Int) : Int := if b < a then bt0 x b a d c else bt0 x a b c d
def atK (ks : List TKnot) (n : Nat) : TPt := ((ks[n]?).map (·.fAt)).getD pt0
def atB (bs : List TPt) (n : Nat) : TPt := (bs[n]?).getD pt0
def atF (fs : List Int) (n : Nat) : Int := (fs[n]?).getD 0
def mv1 (ks : List TKnot) (b : Nat) (fs : List Int) (bs : List TPt) (i : Nat) : TPt :=
  if fs.length = 0 then pt0 else if fd fs (b + i : Nat) = true then atB bs (cl fs (b + i : Nat)) else
  ⟨bt (atK ks i).fX (atK ks (atF fs ((cl fs (b + i : Nat) + fs.length - 1) % fs.length) - b).toNat).fX (atK ks (atF fs (cl fs (b + i : Nat) % fs.length) - b).toNat).fX (atB bs ((cl fs (b + i : Nat) + fs.length - 1) % fs.length)).fX (atB bs (cl fs (b + i : Nat) % fs.length)).fX,
   bt (atK ks i).fY (atK ks (atF fs ((cl fs (b + i : Nat) + fs.length - 1) % fs.length) - b).toNat).fY (atK ks (atF fs (cl fs (b + i : Nat) % fs.length) - b).toNat).fY (atB bs ((cl fs (b + i : Nat) + fs.length - 1) % fs.length)).fY (atB bs (cl fs (b + i : Nat) % fs.length)).fY⟩
def slF {α : Type} (ks : List Int) (xs : List α) (b n : Nat) : List α := (xs.drop (cl ks b)).take (cl ks (b + n : Nat) - cl ks b)
def rsL (ks : List TKnot) (b : Nat) (fs : List Int) (bs : List TPt) (k : Nat) : List TPt := (List.range k).map (mv1 ks b fs bs)
theorem rsL_succ (ks : List TKnot) (b : Nat) (fs : List Int) (bs : List TPt) (k : Nat) : rsL ks b fs bs (k + 1) = rsL ks b fs bs k ++ [mv1 ks b fs bs k] := by simp [rsL, List.range_succ]
theorem rsL_len (ks : List TKnot) (b : Nat) (fs : List Int) (bs : List TPt) (k : Nat) : (rsL ks b fs bs k).length = k := by simp [rsL]
def inL (ns : List Int) (ms : List TPt) : Nat → List TLoop → List TPt
  | _, [] => []
  | b, l :: t => rsL l.fKnots b (slF ns ns b l.fKnots.length) (slF ns ms b l.fKnots.length) l.fKnots.length ++ inL ns ms (b + l.fKnots.length) t
def cnK : List TLoop → Nat
  | [] => 0
  | l :: t => l.fKnots.length + cnK t
theorem cnK_snoc : ∀ (ls : List TLoop) (l : TLoop), cnK (ls ++ [l]) = cnK ls + l.fKnots.length
  | [], l => by simp [cnK]
  | x :: t, l => by simp only [List.cons_append, cnK, cnK_snoc t l]; omega
theorem inL_snoc (ns : List Int) (ms : List TPt) : ∀ (b : Nat) (ls : List TLoop) (l : TLoop), inL ns ms b (ls ++ [l]) = inL ns ms b ls ++ rsL l.fKnots (b + cnK ls) (slF ns ns (b + cnK ls) l.fKnots.length) (slF ns ms (b + cnK ls) l.fKnots.length) l.fKnots.length
  | b, [], l => by simp [inL, cnK]
  | b, x :: t, l => by
    simp only [List.cons_append, inL, inL_snoc ns ms _ t l, cnK, List.append_assoc]
    rw [show b + x.fKnots.length + cnK t = b + (x.fKnots.length + cnK t) by omega]
theorem inL_len (ns : List Int) (ms : List TPt) : ∀ (b : Nat) (ls : List TLoop), (inL ns ms b ls).length = cnK ls
  | b, [] => rfl
  | b, l :: t => by simp only [inL, cnK, List.length_append, rsL_len, inL_len ns ms _ t]
theorem cnK_le : ∀ {ls : List TLoop}, (∀ l ∈ ls, loopB l = true) → cnK ls ≤ 60 * ls.length
  | [], _ => by simp [cnK]
  | l :: t, h => by
    have h1 := (loop_in (h l (by simp))).2.1
    have h2 := cnK_le (ls := t) (fun x hx => h x (by simp [hx]))
    simp only [cnK, List.length_cons]; omega
theorem cnK_take : ∀ (ls : List TLoop) (k : Nat), cnK (ls.take k) ≤ cnK ls
  | [], k => by simp [cnK]
  | l :: t, 0 => by simp [cnK]
  | l :: t, k + 1 => by
    have := cnK_take t k
    simp only [List.take_succ_cons, cnK]; omega
theorem slF_srt {ns : List Int} (h : srt ns) (b n : Nat) : srt (slF ns ns b n) := srt_take (srt_drop h _) _
theorem slF_len {α : Type} {ns : List Int} {xs : List α} (h : ns.length = xs.length) (b n : Nat) (hm : cl ns b ≤ cl ns (b + n : Nat)) : (slF ns xs b n).length = cl ns (b + n : Nat) - cl ns b := by
  have := cl_le ns (b + n : Nat)
  simp only [slF, List.length_take, List.length_drop]; omega
theorem slF_in {ns : List Int} (h : srt ns) {b n j : Nat} {x : Int} (hx : (slF ns ns b n)[j]? = some x) : (b : Int) ≤ x ∧ x < ((b + n : Nat) : Int) := by
  rw [slF, List.getElem?_take] at hx
  split at hx
  · rename_i hj
    rw [List.getElem?_drop] at hx
    exact ⟨cl_ge h (by omega) hx, cl_lt (by omega) hx⟩
  · cases hx
theorem ValidPt_v (p : TPt) : PC Try.prog 26 [.d p.D] (.d (.bool (pntB p))) [] := by
  refine pc_intro ttOk (by kernel_rfl) Try.func26 rfl (by kernel_rfl) (by kernel_rfl) (by kernel_rfl) (fun hw => ?_)
  (conv => whnf)
  (repeat' (first | (refine stg_ ?_) | fail | (refine br_ (fun hbr => ?_) (fun hbr => ?_))))
  all_goals ((refine RetOK.d rfl rfl ?_; conv => whnf); (try simp_all [pntB, inB]); (try (rw [Bool.eq_iff_iff]; simp)); (try omega))
theorem validPts_v (xs : List TPt) : PC Try.prog 15 [.d (.lst (xs.map TPt.D))] (.d (.bool (xs.all pntB))) [] := by
  refine pc_intro ttOk (by kernel_rfl) Try.func15 rfl (by kernel_rfl) (by kernel_rfl) (by kernel_rfl) (fun hw => ?_)
  have hL : (xs.map TPt.D).length = xs.length := List.length_map _
  have hm : (xs.map TPt.D).length ≤ 9223372036854775807 := hw.1.1
  (conv => whnf)
  refine LoopW.go (α := Nat) (fun k => [(5, .d (.lst (xs.map TPt.D))), (6, .d (.int .i64 (xs.map TPt.D).length)), (7, .d (.int .i64 k))]) (fun k => [.gone]) (fun k => k ≤ xs.length ∧ xs.all pntB = (xs.drop k).all pntB) (fun k => xs.length - k) 0 covT_ ?_ (fun k hk => ?_)
  · exact ⟨by omega, rfl⟩
  obtain ⟨hk1, hk2⟩ := hk
  (conv => whnf)
  (refine br_ (fun h2 => ?_) (fun h2 => ?_) <;> (repeat (refine stg_ ?_)))
  · obtain ⟨x, hx⟩ := at_lt' (xs := xs) (k := k) (by omega)
    rw [drop_at hx, List.all_cons] at hk2
    (repeat' (first | (refine stg_ ?_) | (refine cla_ (ValidPt_v x) ?_) | (refine br_ (fun hbr => ?_) (fun hbr => ?_))))
    all_goals first | ((refine RetOK.d rfl rfl ?_; conv => whnf); simp_all; done) | exact NextW.go (k + 1) covT_ ⟨by omega, by simp_all⟩ (by omega)
  · (refine RetOK.d rfl rfl ?_; conv => whnf)
    rw [hk2, List.drop_eq_nil_of_le (by omega)]; rfl
set_option maxHeartbeats 1000000 in
theorem ixKnot_v (xs : List TKnot) (f : Nat) (p : TKnot → Bool) (hf : ∀ x : TKnot, PC Try.prog f [.d x.D] (.d (.bool (p x))) []) :
    PC Try.prog 37 [.d (.lst (xs.map TKnot.D)), .fn (.func f) []] (.d (.int .i64 (fdx p xs 0))) [] := by
  refine pc_intro ttOk (by kernel_rfl) Try.func37 rfl (by kernel_rfl) (by kernel_rfl) (by kernel_rfl) (fun hw => ?_)
  have hL : (xs.map TKnot.D).length = xs.length := List.length_map _
  have hm : (xs.map TKnot.D).length ≤ 9223372036854775807 := hw.1.1
  (conv => whnf)
  refine LoopW.go (α := Nat) (fun k => [(0, .d (.lst (xs.map TKnot.D))), (1, .fn (.func f) []), (7, .d (.int .i64 (xs.map TKnot.D).length)), (8, .d (.int .i64 k))]) (fun k => [.gone]) (fun k => k ≤ xs.length ∧ fdx p xs 0 = fdx p (xs.drop k) k) (fun k => xs.length - k) 0 covT_ ?_ (fun k hk => ?_)
  · exact ⟨by omega, rfl⟩
  obtain ⟨hk1, hk2⟩ := hk
  (conv => whnf)
  (refine br_ (fun h2 => ?_) (fun h2 => ?_) <;> (repeat (refine stg_ ?_)))
  · obtain ⟨x, hx⟩ := at_lt' (xs := xs) (k := k) (by omega)
    rw [fdx_at hx] at hk2
    (repeat (refine stg_ ?_))
    (refine cla_ (hf x) ?_)
    (refine br_ (fun h3 => ?_) (fun h3 => ?_) <;> (repeat (refine stg_ ?_)))
    · (refine RetOK.d rfl rfl ?_; conv => whnf)
      rw [hk2, if_pos h3]
    · (repeat (refine stg_ ?_))
      exact NextW.go (k + 1) covT_ ⟨by omega, by rw [hk2, h3]; rfl⟩ (by omega)
  · (refine RetOK.d rfl rfl ?_; conv => whnf)
    rw [hk2, fdx_end (by omega)]
theorem ctKnot_v (xs : List TKnot) (f : Nat) (p : TKnot → Bool) (hf : ∀ x : TKnot, PC Try.prog f [.d x.D] (.d (.bool (p x))) []) :
    PC Try.prog 32 [.d (.lst (xs.map TKnot.D)), .fn (.func f) []] (.d (.bool (xs.any p))) [] := by
  refine pc_intro ttOk (by kernel_rfl) Try.func32 rfl (by kernel_rfl) (by kernel_rfl) (by kernel_rfl) (fun hw => ?_)
  (conv => whnf)
  (refine cla_ (ixKnot_v xs f p hf) ?_)
  (refine RetOK.d rfl rfl ?_; conv => whnf)
  rw [← fdx_any p xs 0]
theorem vlN_v (k : TKnot) : PC Try.prog 33 [.d k.D] (.d (.bool (!pntB k.fAt))) [] := by
  refine pc_intro ttOk (by kernel_rfl) Try.func33 rfl (by kernel_rfl) (by kernel_rfl) (by kernel_rfl) (fun hw => ?_)
  (conv => whnf)
  (repeat' (first | (refine stg_ ?_) | (refine cla_ (ValidPt_v k.fAt) ?_) | (refine br_ (fun hbr => ?_) (fun hbr => ?_))))
  all_goals ((refine RetOK.d rfl rfl ?_; conv => whnf); try rfl)
theorem ValidLoop_v (l : TLoop) : PC Try.prog 25 [.d l.D] (.d (.bool (loopB l))) [] := by
  refine pc_intro ttOk (by kernel_rfl) Try.func25 rfl (by kernel_rfl) (by kernel_rfl) (by kernel_rfl) (fun hw => ?_)
  have hL : (l.fKnots.map TKnot.D).length = l.fKnots.length := List.length_map _
  have hA : l.fKnots.all (fun k => pntB k.fAt) = !l.fKnots.any (fun k => !pntB k.fAt) := by rw [List.all_eq_not_any_not]
  rcases Nat.eq_zero_or_pos l.fKnots.length with h0 | h0
  · (conv => whnf)
    (repeat' (first | (refine stg_ ?_) | fail | (refine br_ (fun hbr => ?_) (fun hbr => ?_))))
    all_goals first | (exfalso; omega) | ((refine RetOK.d rfl rfl ?_; conv => whnf); simp [loopB, h0])
  · obtain ⟨x, hx⟩ := at_lt' (xs := l.fKnots) (k := 0) h0
    have hx' : (l.fKnots.map TKnot.D)[0]? = some x.D := by rw [List.getElem?_map, hx]; rfl
    (conv => whnf)
    (repeat' (first | (refine stg_ ?_) | (refine cla_ (ctKnot_v l.fKnots _ (fun k => !pntB k.fAt) vlN_v) ?_) | (refine br_ (fun hbr => ?_) (fun hbr => ?_))))
    all_goals ((refine RetOK.d rfl rfl ?_; conv => whnf); rw [loopB, hA, hx, decide_eq_true (show 1 ≤ l.fKnots.length by omega)]; (first | rw [decide_eq_true (show l.fKnots.length ≤ 60 by omega)] | rw [decide_eq_false (show ¬ l.fKnots.length ≤ 60 by omega)]); first | (simp_all; done) | (simp_all; omega))
set_option maxHeartbeats 1000000 in
theorem ixLoop_v (xs : List TLoop) (f : Nat) (p : TLoop → Bool) (hf : ∀ x : TLoop, PC Try.prog f [.d x.D] (.d (.bool (p x))) []) :
    PC Try.prog 31 [.d (.lst (xs.map TLoop.D)), .fn (.func f) []] (.d (.int .i64 (fdx p xs 0))) [] := by
  refine pc_intro ttOk (by kernel_rfl) Try.func31 rfl (by kernel_rfl) (by kernel_rfl) (by kernel_rfl) (fun hw => ?_)
  have hL : (xs.map TLoop.D).length = xs.length := List.length_map _
  have hm : (xs.map TLoop.D).length ≤ 9223372036854775807 := hw.1.1
  (conv => whnf)
  refine LoopW.go (α := Nat) (fun k => [(0, .d (.lst (xs.map TLoop.D))), (1, .fn (.func f) []), (7, .d (.int .i64 (xs.map TLoop.D).length)), (8, .d (.int .i64 k))]) (fun k => [.gone]) (fun k => k ≤ xs.length ∧ fdx p xs 0 = fdx p (xs.drop k) k) (fun k => xs.length - k) 0 covT_ ?_ (fun k hk => ?_)
  · exact ⟨by omega, rfl⟩
  obtain ⟨hk1, hk2⟩ := hk
  (conv => whnf)
  (refine br_ (fun h2 => ?_) (fun h2 => ?_) <;> (repeat (refine stg_ ?_)))
  · obtain ⟨x, hx⟩ := at_lt' (xs := xs) (k := k) (by omega)
    rw [fdx_at hx] at hk2
    (repeat (refine stg_ ?_))
    (refine cla_ (hf x) ?_)
    (refine br_ (fun h3 => ?_) (fun h3 => ?_) <;> (repeat (refine stg_ ?_)))
    · (refine RetOK.d rfl rfl ?_; conv => whnf)
      rw [hk2, if_pos h3]
    · (repeat (refine stg_ ?_))
      exact NextW.go (k + 1) covT_ ⟨by omega, by rw [hk2, h3]; rfl⟩ (by omega)
  · (refine RetOK.d rfl rfl ?_; conv => whnf)
    rw [hk2, fdx_end (by omega)]
theorem ctLoop_v (xs : List TLoop) (f : Nat) (p : TLoop → Bool) (hf : ∀ x : TLoop, PC Try.prog f [.d x.D] (.d (.bool (p x))) []) :
    PC Try.prog 23 [.d (.lst (xs.map TLoop.D)), .fn (.func f) []] (.d (.bool (xs.any p))) [] := by
  refine pc_intro ttOk (by kernel_rfl) Try.func23 rfl (by kernel_rfl) (by kernel_rfl) (by kernel_rfl) (fun hw => ?_)
  (conv => whnf)
  (refine cla_ (ixLoop_v xs f p hf) ?_)
  (refine RetOK.d rfl rfl ?_; conv => whnf)
  rw [← fdx_any p xs 0]
theorem voN_v (l : TLoop) : PC Try.prog 24 [.d l.D] (.d (.bool (!loopB l))) [] := by
  refine pc_intro ttOk (by kernel_rfl) Try.func24 rfl (by kernel_rfl) (by kernel_rfl) (by kernel_rfl) (fun hw => ?_)
  (conv => whnf)
  (repeat' (first | (refine stg_ ?_) | (refine cla_ (ValidLoop_v l) ?_) | (refine br_ (fun hbr => ?_) (fun hbr => ?_))))
  all_goals ((refine RetOK.d rfl rfl ?_; conv => whnf); try rfl)
theorem ValidOutline_v (o : TOutline) : PC Try.prog 13 [.d o.D] (.d (.bool (outB o))) [] := by
  refine pc_intro ttOk (by kernel_rfl) Try.func13 rfl (by kernel_rfl) (by kernel_rfl) (by kernel_rfl) (fun hw => ?_)
  have hL : (o.fLoops.map TLoop.D).length = o.fLoops.length := List.length_map _
  have hA : o.fLoops.all loopB = !o.fLoops.any (fun l => !loopB l) := by rw [List.all_eq_not_any_not]
  (conv => whnf)
  (repeat' (first | (refine stg_ ?_) | (refine cla_ (ctLoop_v o.fLoops _ (fun l => !loopB l) voN_v) ?_) | (refine br_ (fun hbr => ?_) (fun hbr => ?_))))
  all_goals ((refine RetOK.d rfl rfl ?_; conv => whnf); rw [outB, hA]; first | (simp_all; done) | (simp_all; omega))
theorem ri_one (xs : List Int) : riG none xs = riG (pvI xs 1) (xs.drop 1) := by cases xs <;> simp [riG, pvI, ltI]
theorem increasing_v (xs : List Int) : PC Try.prog 14 [.d (.lst (xs.map (D.int .i64)))] (.d (.bool (riG none xs))) [] := by
  refine pc_intro ttOk (by kernel_rfl) Try.func14 rfl (by kernel_rfl) (by kernel_rfl) (by kernel_rfl) (fun hw => ?_)
  have hL : (xs.map (D.int .i64)).length = xs.length := List.length_map _
  have hm : (xs.map (D.int .i64)).length ≤ 9223372036854775807 := hw.1.1
  (conv => whnf)
  refine LoopW.go (α := Nat) (fun k => [(0, .d (.lst (xs.map (D.int .i64)))), (3, .d (.int .i64 k))]) (fun k => [.gone]) (fun k => 1 ≤ k ∧ k ≤ xs.length + 1 ∧ riG none xs = riG (pvI xs k) (xs.drop k)) (fun k => xs.length - k) 1 covT_ ?_ (fun k hk => ?_)
  · exact ⟨by omega, by omega, ri_one xs⟩
  obtain ⟨hk0, hk1, hk2⟩ := hk
  (conv => whnf)
  (refine br_ (fun h2 => ?_) (fun h2 => ?_) <;> (repeat (refine stg_ ?_)))
  · obtain ⟨x, hx⟩ := at_lt' (xs := xs) (k := k) (by omega)
    obtain ⟨p, hp⟩ := at_lt' (xs := xs) (k := k - 1) (by omega)
    have hp' : (xs.map (D.int .i64))[((k : Int) - 1).toNat]? = some (.int .i64 p) := by
      have : ((k : Int) - 1).toNat = k - 1 := by omega
      rw [this, List.getElem?_map, hp]; rfl
    rw [riG_at hx, pvI_pos hk0 hp, ltI] at hk2
    (repeat' (first | (refine stg_ ?_) | (refine IxW.at (by omega) hp' ?_; (conv => whnf)) | (refine br_ (fun hbr => ?_) (fun hbr => ?_))))
    all_goals first | ((refine RetOK.d rfl rfl ?_; conv => whnf); rw [hk2]; simp_all; done) | ((refine RetOK.d rfl rfl ?_; conv => whnf); rw [hk2, decide_eq_false (by omega)]; rfl) | exact NextW.go (k + 1) covT_ ⟨by omega, by omega, by rw [hk2, decide_eq_true (by omega)]; rfl⟩ (by omega)
  · (refine RetOK.d rfl rfl ?_; conv => whnf)
    rw [hk2, riG_end (by omega)]
theorem isNaNi_v (n : Int) : PC Try.prog 38 [.d (.int .i64 n)] (.d (.bool false)) [] := by
  refine pc_intro ttOk (by kernel_rfl) Try.func38 rfl (by kernel_rfl) (by kernel_rfl) (by kernel_rfl) (fun hw => ?_)
  (conv => whnf)
  (repeat' (first | (refine stg_ ?_) | fail | (refine br_ (fun hbr => ?_) (fun hbr => ?_))))
  all_goals ((refine RetOK.d rfl rfl ?_; conv => whnf); simp)
theorem isNaNs_v (n : Int) : PC Try.prog 35 [.d (.int .i64 n)] (.d (.bool false)) [] := by
  refine pc_intro ttOk (by kernel_rfl) Try.func35 rfl (by kernel_rfl) (by kernel_rfl) (by kernel_rfl) (fun hw => ?_)
  (conv => whnf)
  (repeat' (first | (refine stg_ ?_) | fail | (refine br_ (fun hbr => ?_) (fun hbr => ?_))))
  all_goals ((refine RetOK.d rfl rfl ?_; conv => whnf); simp)
theorem less_v (a b : Int) : PC Try.prog 34 [.d (.int .i64 a), .d (.int .i64 b)] (.d (.bool (decide (a < b)))) [] := by
  refine pc_intro ttOk (by kernel_rfl) Try.func34 rfl (by kernel_rfl) (by kernel_rfl) (by kernel_rfl) (fun hw => ?_)
  (conv => whnf)
  (repeat' (first | (refine stg_ ?_) | (refine cla_ (isNaNi_v _) ?_) | (refine br_ (fun hbr => ?_) (fun hbr => ?_))))
  all_goals ((refine RetOK.d rfl rfl ?_; conv => whnf); try simp_all)
set_option maxHeartbeats 2000000 in
theorem bsr_v (xs : List Int) (b : Int) (hs : srt xs) (hl : xs.length ≤ 1048576) : PC Try.prog 27 [.d (.lst (xs.map (D.int .i64))), .d (.int .i64 b)] (.tup [.d (.int .i64 (cl xs b : Nat)), .d (.bool (fd xs b))]) [] := by
  refine pc_intro ttOk (by kernel_rfl) Try.func27 rfl (by kernel_rfl) (by kernel_rfl) (by kernel_rfl) (fun hw => ?_)
  have hL : (xs.map (D.int .i64)).length = xs.length := List.length_map _
  have hm : (xs.map (D.int .i64)).length ≤ 9223372036854775807 := hw.1.1
  have hc := cl_le xs b
  (conv => whnf)
  (repeat (refine stg_ ?_))
  refine LoopW.go (α := Nat × Nat) (fun p => [(0, .d (.lst (xs.map (D.int .i64)))), (1, .d (.int .i64 b)), (6, .d (.int .i64 (xs.map (D.int .i64)).length)), (7, .d (.int .i64 (p.1 : Nat))), (8, .d (.int .i64 (p.2 : Nat)))]) (fun _ => [.gone]) (fun p => p.1 ≤ cl xs b ∧ cl xs b ≤ p.2 ∧ p.2 ≤ xs.length) (fun p => p.2 - p.1) (0, xs.length) (Weak.cov ⟨rfl, rfl, rfl, rfl, by rw [← hL]; rfl, trivial⟩ ⟨trivial, trivial⟩ rfl) ⟨by simp, hc, Nat.le_refl _⟩ ?_
  rintro ⟨i, j⟩ ⟨k1, k2, k3⟩
  dsimp only at k1 k2 k3 ⊢
  (conv => whnf)
  (refine br_ (fun h1 => ?_) (fun h1 => ?_))
  · (repeat (refine stg_ ?_))
    refine ShW.at (q := 2) (by rfl) (by omega) ?_
    (conv => whnf)
    have hq : ((i : Int) + (j : Int)) / 2 = (((i + j) / 2 : Nat) : Int) := by omega
    rw [hq]
    generalize hh : (i + j) / 2 = m at *
    obtain ⟨y, hy⟩ := at_lt' (xs := xs) (k := m) (by omega)
    have c1 := less_v y b
    (repeat (refine stg_ ?_))
    (refine cla_ (c1) ?_)
    (repeat (refine stg_ ?_))
    (refine br_ (fun h2 => ?_) (fun h2 => ?_))
    · have hlt : m < cl xs b := by
        apply Classical.byContradiction
        intro h
        have := cl_ge (b := b) hs (by omega) hy
        omega
      (repeat (refine stg_ ?_))
      refine NextW.go (m + 1, j) covT_ ⟨by simp only; omega, by simp only; omega, by simp only; omega⟩ (by show j - (m + 1) < j - i; omega)
    · have hge : cl xs b ≤ m := by
        apply Classical.byContradiction
        intro h
        have := cl_lt (b := b) (by omega) hy
        omega
      (repeat (refine stg_ ?_))
      refine NextW.go (i, m) covT_ ⟨by simp only; omega, by simp only; omega, by simp only; omega⟩ (by show m - i < j - i; omega)
  · obtain rfl : i = cl xs b := by omega
    rcases Nat.lt_or_ge (cl xs b) xs.length with hlt | hge
    · obtain ⟨y, hy⟩ := at_lt' (xs := xs) (k := cl xs b) hlt
      have hf : fd xs b = decide (y = b) := by
        rw [fd, hy]
        by_cases h : y = b
        · subst h; simp
        · rw [decide_eq_false h]; simp [h]
      rw [hf]
      (repeat' (first | (refine stg_ ?_) | (refine cla_ (isNaNs_v _) ?_) | (refine br_ (fun hbr => ?_) (fun hbr => ?_))))
      all_goals first | (exfalso; omega) | skip
      all_goals ((refine RetOK.t rfl ?_; (repeat' ((conv => whnf); (first | done | (refine ⟨_, _, rfl, ⟨rfl, ?_⟩, ?_⟩) | fail))); (all_goals (conv => whnf))); (all_goals first | rfl | (simp_all; done) | skip))
    · have hf : fd xs b = false := by
        rw [fd, List.getElem?_eq_none hge]; rfl
      rw [hf]
      (repeat' (first | (refine stg_ ?_) | (refine cla_ (isNaNs_v _) ?_) | (refine br_ (fun hbr => ?_) (fun hbr => ?_))))
      all_goals first | (exfalso; omega) | skip
      all_goals ((refine RetOK.t rfl ?_; (repeat' ((conv => whnf); (first | done | (refine ⟨_, _, rfl, ⟨rfl, ?_⟩, ?_⟩) | fail))); (all_goals (conv => whnf))); (all_goals first | rfl | (simp_all; done) | skip))
theorem prodb (u v w : Int) (h1 : 0 < u) (h2 : u < w) (h3 : w ≤ 524288) (h4 : -524288 ≤ v) (h5 : v ≤ 524288) : (-274877906944 ≤ u * v ∧ u * v ≤ 274877906944) ∧ 0 < w ∧ -524288 ≤ divR (u * v) w ∧ divR (u * v) w ≤ 524288 := by
  have e3 : u * v ≤ u * 524288 := Int.mul_le_mul_of_nonneg_left h5 (by omega)
  have e4 : u * (-524288) ≤ u * v := Int.mul_le_mul_of_nonneg_left h4 (by omega)
  refine ⟨by omega, by omega, le_divR (by omega) (by omega), divR_le (by omega) (by omega)⟩
theorem inferred_v (x a b c d : Int) (hb : (-262144 ≤ x ∧ x ≤ 262144) ∧ (-262144 ≤ a ∧ a ≤ 262144) ∧ (-262144 ≤ b ∧ b ≤ 262144) ∧ (-262144 ≤ c ∧ c ≤ 262144) ∧ -262144 ≤ d ∧ d ≤ 262144) : PC Try.prog 28 [.d (.int .i64 x), .d (.int .i64 a), .d (.int .i64 b), .d (.int .i64 c), .d (.int .i64 d)] (.d (.int .i64 (bt x a b c d))) [] := by
  refine pc_intro ttOk (by kernel_rfl) Try.func28 rfl (by kernel_rfl) (by kernel_rfl) (by kernel_rfl) (fun hw => ?_)
  obtain ⟨b1, b2, b3, b4, b5⟩ := hb
  by_cases hab : b < a
  · rw [bt, if_pos hab]
    have d1 := DivRound_v ((x - b) * (c - d)) (a - b)
    by_cases h1 : b = a
    · by_cases h2 : d = c
      · rw [bt0, if_pos h1, if_pos h2]
        (conv => whnf)
        (repeat' (first | (refine stg_ ?_) | fail | (refine br_ (fun hbr => ?_) (fun hbr => ?_))))
        all_goals first | (exfalso; omega) | ((refine RetOK.d rfl rfl ?_; conv => whnf); done) | ((refine RetOK.d rfl rfl ?_; conv => whnf); congr 1)
      · rw [bt0, if_pos h1, if_neg h2]
        (conv => whnf)
        (repeat' (first | (refine stg_ ?_) | fail | (refine br_ (fun hbr => ?_) (fun hbr => ?_))))
        all_goals first | (exfalso; omega) | ((refine RetOK.d rfl rfl ?_; conv => whnf); done)
    by_cases h2 : x ≤ b
    · rw [bt0, if_neg h1, if_pos h2]
      (conv => whnf)
      (repeat' (first | (refine stg_ ?_) | fail | (refine br_ (fun hbr => ?_) (fun hbr => ?_))))
      all_goals first | (exfalso; omega) | ((refine RetOK.d rfl rfl ?_; conv => whnf); done)
    by_cases h3 : a ≤ x
    · rw [bt0, if_neg h1, if_neg h2, if_pos h3]
      (conv => whnf)
      (repeat' (first | (refine stg_ ?_) | fail | (refine br_ (fun hbr => ?_) (fun hbr => ?_))))
      all_goals first | (exfalso; omega) | ((refine RetOK.d rfl rfl ?_; conv => whnf); done)
    · rw [bt0, if_neg h1, if_neg h2, if_neg h3]
      obtain ⟨e1, e2, e3, e4⟩ := prodb (x - b) (c - d) (a - b) (by omega) (by omega) (by omega) (by omega) (by omega)
      (conv => whnf)
      (repeat' (first | (refine stg_ ?_) | (refine cla_ (d1) ?_) | (refine br_ (fun hbr => ?_) (fun hbr => ?_))))
      all_goals first | (exfalso; omega) | ((refine RetOK.d rfl rfl ?_; conv => whnf); done)
  · rw [bt, if_neg hab]
    have d1 := DivRound_v ((x - a) * (d - c)) (b - a)
    by_cases h1 : a = b
    · by_cases h2 : c = d
      · rw [bt0, if_pos h1, if_pos h2]
        (conv => whnf)
        (repeat' (first | (refine stg_ ?_) | fail | (refine br_ (fun hbr => ?_) (fun hbr => ?_))))
        all_goals first | (exfalso; omega) | ((refine RetOK.d rfl rfl ?_; conv => whnf); done) | ((refine RetOK.d rfl rfl ?_; conv => whnf); congr 1)
      · rw [bt0, if_pos h1, if_neg h2]
        (conv => whnf)
        (repeat' (first | (refine stg_ ?_) | fail | (refine br_ (fun hbr => ?_) (fun hbr => ?_))))
        all_goals first | (exfalso; omega) | ((refine RetOK.d rfl rfl ?_; conv => whnf); done)
    by_cases h2 : x ≤ a
    · rw [bt0, if_neg h1, if_pos h2]
      (conv => whnf)
      (repeat' (first | (refine stg_ ?_) | fail | (refine br_ (fun hbr => ?_) (fun hbr => ?_))))
      all_goals first | (exfalso; omega) | ((refine RetOK.d rfl rfl ?_; conv => whnf); done)
    by_cases h3 : b ≤ x
    · rw [bt0, if_neg h1, if_neg h2, if_pos h3]
      (conv => whnf)
      (repeat' (first | (refine stg_ ?_) | fail | (refine br_ (fun hbr => ?_) (fun hbr => ?_))))
      all_goals first | (exfalso; omega) | ((refine RetOK.d rfl rfl ?_; conv => whnf); done)
    · rw [bt0, if_neg h1, if_neg h2, if_neg h3]
      obtain ⟨e1, e2, e3, e4⟩ := prodb (x - a) (d - c) (b - a) (by omega) (by omega) (by omega) (by omega) (by omega)
      (conv => whnf)
      (repeat' (first | (refine stg_ ?_) | (refine cla_ (d1) ?_) | (refine br_ (fun hbr => ?_) (fun hbr => ?_))))
      all_goals first | (exfalso; omega) | ((refine RetOK.d rfl rfl ?_; conv => whnf); done)
theorem knotCount_v (o : TOutline) (ho : outB o = true) : PC Try.prog 16 [.d o.D] (.d (.int .i64 (cnK o.fLoops : Nat))) [] := by
  refine pc_intro ttOk (by kernel_rfl) Try.func16 rfl (by kernel_rfl) (by kernel_rfl) (by kernel_rfl) (fun hw => ?_)
  obtain ⟨ho1, ho2⟩ := out_in ho
  have hL : (o.fLoops.map TLoop.D).length = o.fLoops.length := List.length_map _
  have hC := cnK_le ho2
  (conv => whnf)
  (repeat (refine stg_ ?_))
  refine LoopW.go (α := Nat) (fun k => [(3, .d (.int .i64 (cnK (o.fLoops.take k) : Nat))), (7, .d (.lst (o.fLoops.map TLoop.D))), (8, .d (.int .i64 (o.fLoops.map TLoop.D).length)), (9, .d (.int .i64 k))]) (fun _ => [.gone]) (fun k => k ≤ o.fLoops.length) (fun k => o.fLoops.length - k) 0 covT_ (by omega) (fun k hk => ?_)
  have hT := cnK_take o.fLoops k
  (conv => whnf)
  (refine br_ (fun h1 => ?_) (fun h1 => ?_))
  · obtain ⟨l, hl⟩ := at_lt' (xs := o.fLoops) (k := k) (by omega)
    have hS : cnK (o.fLoops.take (k + 1)) = cnK (o.fLoops.take k) + l.fKnots.length := by rw [take_snoc_get hl, cnK_snoc]
    have hLk : (l.fKnots.map TKnot.D).length = l.fKnots.length := List.length_map _
    have hT2 := cnK_take o.fLoops (k + 1)
    (repeat (refine stg_ ?_))
    refine NextW.go (k + 1) (Weak.cov ⟨?_, rfl, rfl, rfl, trivial⟩ ⟨trivial, trivial⟩ rfl) (by omega) (by omega)
    rw [hS, ← hLk]; rfl
  · (repeat (refine stg_ ?_))
    (refine RetOK.d rfl rfl ?_; conv => whnf)
    rw [List.take_of_length_le (by omega)]
theorem Weak.shal {e : Env} {h : List Blk} (b : Nat) {n : Nat} {xs : List D} (hb : h[b]? = some (.arr n xs true)) (hb0 : Nat.ble 1 b = true) : Weak e h e (h.set b (.arr n xs false)) := by
  intro B X N M a w R
  have hb1 := Nat.le_of_ble_eq_true hb0
  have hbh : b < h.length := (List.getElem?_eq_some_iff.1 hb).1
  have hbl : b < M.length := by rw [R.inv.len]; exact hbh
  have hM : M[b]? = some M[b] := List.getElem?_eq_getElem hbl
  have hnf : ∀ c, nOf (h.set b (.arr n xs false)) c = nOf h c := fun c => by
    unfold nOf
    by_cases hc : c = b
    · subst hc
      rw [List.getElem?_set_self hbh, hb]
    · rw [List.getElem?_set_ne (Ne.symm hc)]
  generalize M[b] = m0 at hM
  obtain ⟨m', hsub, hfst, hnd1, hk⟩ : ∃ m' : Option (Nat × List Nat), (∀ x ∈ mO m', x ∈ mO m0) ∧ (∀ g F, m0 = some (g, F) → m' = some (g, [])) ∧ (mO m').Nodup ∧ (m0 = none → m' = none) := by
    cases m0 with
    | none => exact ⟨none, fun x hx => hx, (fun g F q => by cases q), List.nodup_nil, fun _ => rfl⟩
    | some p =>
      obtain ⟨g, F⟩ := p
      exact ⟨some (g, []), (fun x hx => by simp [mO] at hx ⊢; exact .inl hx), (fun g1 F1 q => by cases q; rfl), by simp [mO], (fun q => by cases q)⟩
  have hM' : (M.set b m')[b]? = some m' := List.getElem?_set_self hbl
  have hO1 := O_perm hM
  have hO2 := O_perm hM'
  rw [List.set_set] at hO2
  have hOsub : ∀ x, x ∈ MM.O (M.set b m') → x ∈ MM.O M := fun x hx => by
    rw [hO2.mem_iff, List.mem_append] at hx
    rw [hO1.mem_iff, List.mem_append]
    exact hx.imp (hsub x) id
  have hnd0 := (List.Perm.nodup_iff hO1).1 R.inv.nd
  have hgone : ∀ x ∈ mO m0, x ∉ mO m' → x ∉ MM.O (M.set b m') := fun x hx hn hm => by
    rw [hO2.mem_iff, List.mem_append] at hm
    rcases hm with hm | hm
    · exact hn hm
    · exact (List.nodup_append.1 hnd0).2.2 x hx x hm rfl
  have mv : Mv (fun _ => True) w M h w (M.set b m') (h.set b (.arr n xs false)) := {
    ext := fun x hx _ => ⟨fun hm => hx (hOsub x hm), rfl⟩
    ids := fun c g F _ hc => by
      by_cases hcb : c = b
      · subst hcb
        rw [hM] at hc
        cases hc
        exact ⟨[], by rw [hM', hfst g F rfl]⟩
      · exact ⟨F, by rw [List.getElem?_set_ne (Ne.symm hcb)]; exact hc⟩
    row := fun c g F arr t _ _ hg => ⟨arr, hg, rfl⟩
    nof := fun c _ _ _ _ => hnf c
    sz := Nat.le_refl _ }
  refine ⟨M.set b m', R.step R.ext ⟨by simp [R.inv.len], fun c k m hk' hm => ?_, ?_, fun c k m hk' hm hl x hx => ?_, fun x hx => R.inv.hi x (hOsub x hx)⟩ mv (by rw [List.getElem?_set_ne (by omega)]) (by rw [List.getElem?_set_ne (by omega)])⟩
  · by_cases hcb : c = b
    · subst hcb
      rw [List.getElem?_set_self hbh] at hk'
      rw [hM'] at hm
      cases hk'
      cases hm
      have hB := R.inv.blk c _ _ hb hM
      cases m0 with
      | none =>
        rw [hk rfl]
        exact hB
      | some p =>
        obtain ⟨g, F⟩ := p
        obtain ⟨arr, t, k1, k2, k3⟩ := hB
        rw [if_pos rfl] at k3
        rw [hfst g F rfl]
        refine ⟨arr, t, k1, k2, ?_⟩
        rw [if_neg (by simp)]
        refine ⟨rfl, ?_⟩
        have hF : ∀ x ∈ F, x ∉ MM.O (M.set c (some (g, []))) := fun x hx => by
          have := hgone x (by simp [mO, hx]) (fun hm => by
            rw [hfst g F rfl] at hm
            have hxg : x = g := by simpa [mO] using hm
            have := (List.nodup_append.1 hnd0).1
            rw [show mO (some (g, F)) = g :: F from rfl] at this
            exact (List.nodup_cons.1 this).1 (hxg ▸ hx))
          rwa [hfst g F rfl] at this
        have key : ∀ (xs : List D) (i : Nat) (F : List Nat), (∀ x ∈ F, x ∉ MM.O (M.set c (some (g, [])))) → ownDe w arr n xs i F → extDe (MM.O (M.set c (some (g, [])))) w arr n xs i := by
          intro xs
          induction xs with
          | nil => intro i F _ _; trivial
          | cons x xs ih =>
            intro i F hF ⟨F1, F2, ces, e, q1, q2, q3, q4⟩
            subst e
            exact ⟨⟨ces, q1, q2, ownD_rep x F1 ces (fun b hb => hF b (by simp [hb])) q3⟩, ih (i + 1) F2 (fun b hb => hF b (by simp [hb])) q4⟩
        exact key xs 0 F hF k3
    · rw [List.getElem?_set_ne (Ne.symm hcb)] at hk' hm
      exact BRep_mv mv (by cases k <;> first | trivial | exact V.inS_all _ | exact inSE_all _) (fun _ _ => rfl) (R.inv.blk c k m hk' hm)
  · refine (List.Perm.nodup_iff hO2).2 (List.nodup_append.2 ⟨hnd1, (List.nodup_append.1 hnd0).2.1, fun x hx y hy e => ?_⟩)
    exact (List.nodup_append.1 hnd0).2.2 x (hsub x hx) y hy e
  · by_cases hcb : c = b
    · subst hcb
      rw [hM'] at hm
      cases hm
      exact R.inv.lo c _ _ hb hM rfl x (hsub x hx)
    · rw [List.getElem?_set_ne (Ne.symm hcb)] at hk' hm
      exact R.inv.lo c k m hk' hm hl x hx
def trB13 : OT := .q 0 (.q 1 (.q 2 (.q 3 (.q 4 (.q 5 (.alt 6 (.alt 7 (.q 8 (.alt 9 .done .nil)) .nil) .nil))))))
def trB15 : OT := .q 0 (.q 1 (.q 2 (.q 3 (.q 4 (.q 5 (.alt 6 (.alt 7 (.q 8 (.alt 9 .done .nil)) .nil) .nil))))))
def trB18 : OT := .q 0 (.q 2 (.q 7 (.alt 1 (.alt 3 (.q 4 (.q 5 (.alt 6 (.alt 8 (.alt 9 (.alt 10 (.alt 11 (.q 12 (.q 13 (.alt 14 .done .nil))) .nil) .nil) .nil) .nil) (.alt 8 (.q 6 (.alt 9 (.alt 10 (.alt 11 (.q 12 (.q 13 (.alt 14 .done .nil))) .nil) .nil) .nil)) .nil)))) (.alt 8 (.q 3 (.q 4 (.q 5 (.q 6 (.alt 9 (.alt 10 (.alt 11 (.q 12 (.q 13 (.alt 14 .done .nil))) .nil) .nil) .nil))))) .nil)) (.alt 3 (.q 4 (.q 5 (.alt 1 (.alt 6 (.alt 8 (.alt 9 (.alt 10 (.alt 11 (.q 12 (.q 13 (.alt 14 .done .nil))) .nil) .nil) .nil) .nil) (.alt 8 (.q 6 (.alt 9 (.alt 10 (.alt 11 (.q 12 (.q 13 (.alt 14 .done .nil))) .nil) .nil) .nil)) .nil)) (.alt 6 (.alt 1 (.alt 8 (.alt 9 (.alt 10 (.alt 11 (.q 12 (.q 13 (.alt 14 .done .nil))) .nil) .nil) .nil) .nil) (.alt 8 (.alt 1 (.alt 9 (.alt 10 (.alt 11 (.q 12 (.q 13 (.alt 14 .done .nil))) .nil) .nil) .nil) (.alt 9 (.alt 1 (.alt 10 (.alt 11 (.q 12 (.q 13 (.alt 14 .done .nil))) .nil) .nil) (.alt 10 (.alt 1 (.alt 11 (.q 12 (.q 13 (.alt 14 .done .nil))) .nil) (.alt 11 (.q 1 (.q 12 (.q 13 (.alt 14 .done .nil)))) .nil)) .nil)) .nil)) .nil)) (.alt 8 (.q 6 (.alt 1 (.alt 9 (.alt 10 (.alt 11 (.q 12 (.q 13 (.alt 14 .done .nil))) .nil) .nil) .nil) (.alt 9 (.alt 1 (.alt 10 (.alt 11 (.q 12 (.q 13 (.alt 14 .done .nil))) .nil) .nil) (.alt 10 (.alt 1 (.alt 11 (.q 12 (.q 13 (.alt 14 .done .nil))) .nil) (.alt 11 (.q 1 (.q 12 (.q 13 (.alt 14 .done .nil)))) .nil)) .nil)) .nil))) .nil))))) (.alt 8 (.q 3 (.q 4 (.q 5 (.q 6 (.alt 1 (.alt 9 (.alt 10 (.alt 11 (.q 12 (.q 13 (.alt 14 .done .nil))) .nil) .nil) .nil) (.alt 9 (.alt 1 (.alt 10 (.alt 11 (.q 12 (.q 13 (.alt 14 .done .nil))) .nil) .nil) (.alt 10 (.alt 1 (.alt 11 (.q 12 (.q 13 (.alt 14 .done .nil))) .nil) (.alt 11 (.q 1 (.q 12 (.q 13 (.alt 14 .done .nil)))) .nil)) .nil)) .nil)))))) .nil)))))
def trB20 : OT := .q 0 (.q 2 (.q 3 (.q 4 (.q 5 (.q 6 (.alt 1 (.alt 7 (.alt 8 (.alt 9 (.q 10 (.q 11 (.alt 12 .done .nil))) .nil) .nil) .nil) (.alt 7 (.alt 1 (.alt 8 (.alt 9 (.q 10 (.q 11 (.alt 12 .done .nil))) .nil) .nil) (.alt 8 (.alt 1 (.alt 9 (.q 10 (.q 11 (.alt 12 .done .nil))) .nil) (.alt 9 (.q 1 (.q 10 (.q 11 (.alt 12 .done .nil)))) .nil)) .nil)) .nil)))))))
def trDD : OT := .q 0 (.q 2 (.alt 1 (.alt 3 (.alt 4 (.alt 5 (.q 6 (.alt 7 .done .nil)) .nil) .nil) .nil) (.alt 3 (.q 1 (.alt 4 (.alt 5 (.q 6 (.alt 7 .done .nil)) .nil) .nil)) .nil)))
def trD7 : OT := .q 0 (.q 2 (.alt 1 (.alt 3 (.alt 4 (.alt 5 (.alt 6 (.q 7 (.alt 8 .done .nil)) .nil) .nil) .nil) .nil) (.alt 3 (.alt 1 (.alt 4 (.alt 5 (.alt 6 (.q 7 (.alt 8 .done .nil)) .nil) .nil) .nil) (.alt 4 (.q 1 (.alt 5 (.alt 6 (.q 7 (.alt 8 .done .nil)) .nil) .nil)) .nil)) .nil)))
def trD14 : OT := .q 0 (.q 1 (.q 3 (.alt 2 (.alt 4 (.alt 5 (.q 6 (.q 7 .done)) .nil) (.alt 5 (.q 4 (.q 6 (.q 7 .done))) .nil)) (.alt 4 (.alt 2 (.alt 5 (.q 6 (.q 7 .done)) .nil) (.alt 5 (.q 2 (.q 6 (.q 7 .done))) .nil)) (.alt 5 (.q 2 (.q 4 (.q 6 (.q 7 .done)))) .nil)))))
def trB22 : OT := .q 0 (.q 2 (.q 3 (.q 4 (.q 5 (.q 6 (.alt 1 (.alt 7 (.alt 8 (.alt 9 (.alt 10 (.alt 11 (.alt 12 (.q 13 (.q 14 (.alt 15 .done .nil))) .nil) .nil) .nil) .nil) (.alt 9 (.alt 8 (.alt 10 (.alt 11 (.alt 12 (.q 13 (.q 14 (.alt 15 .done .nil))) .nil) .nil) .nil) (.alt 10 (.alt 8 (.alt 11 (.alt 12 (.q 13 (.q 14 (.alt 15 .done .nil))) .nil) .nil) .nil) .nil)) .nil)) (.alt 9 (.alt 7 (.alt 8 (.alt 10 (.alt 11 (.alt 12 (.q 13 (.q 14 (.alt 15 .done .nil))) .nil) .nil) .nil) (.alt 10 (.alt 8 (.alt 11 (.alt 12 (.q 13 (.q 14 (.alt 15 .done .nil))) .nil) .nil) .nil) .nil)) (.alt 10 (.alt 7 (.alt 8 (.alt 11 (.alt 12 (.q 13 (.q 14 (.alt 15 .done .nil))) .nil) .nil) .nil) .nil) .nil)) .nil)) (.alt 7 (.alt 1 (.alt 8 (.alt 9 (.alt 10 (.alt 11 (.alt 12 (.q 13 (.q 14 (.alt 15 .done .nil))) .nil) .nil) .nil) .nil) (.alt 9 (.alt 8 (.alt 10 (.alt 11 (.alt 12 (.q 13 (.q 14 (.alt 15 .done .nil))) .nil) .nil) .nil) (.alt 10 (.alt 8 (.alt 11 (.alt 12 (.q 13 (.q 14 (.alt 15 .done .nil))) .nil) .nil) .nil) .nil)) .nil)) (.alt 8 (.alt 1 (.alt 9 (.alt 10 (.alt 11 (.alt 12 (.q 13 (.q 14 (.alt 15 .done .nil))) .nil) .nil) .nil) .nil) (.alt 9 (.alt 1 (.alt 10 (.alt 11 (.alt 12 (.q 13 (.q 14 (.alt 15 .done .nil))) .nil) .nil) .nil) (.alt 10 (.alt 1 (.alt 11 (.alt 12 (.q 13 (.q 14 (.alt 15 .done .nil))) .nil) .nil) (.alt 11 (.alt 1 (.alt 12 (.q 13 (.q 14 (.alt 15 .done .nil))) .nil) (.alt 12 (.q 1 (.q 13 (.q 14 (.alt 15 .done .nil)))) .nil)) .nil)) .nil)) .nil)) (.alt 9 (.alt 1 (.alt 8 (.alt 10 (.alt 11 (.alt 12 (.q 13 (.q 14 (.alt 15 .done .nil))) .nil) .nil) .nil) (.alt 10 (.alt 8 (.alt 11 (.alt 12 (.q 13 (.q 14 (.alt 15 .done .nil))) .nil) .nil) .nil) .nil)) (.alt 8 (.alt 1 (.alt 10 (.alt 11 (.alt 12 (.q 13 (.q 14 (.alt 15 .done .nil))) .nil) .nil) .nil) (.alt 10 (.alt 1 (.alt 11 (.alt 12 (.q 13 (.q 14 (.alt 15 .done .nil))) .nil) .nil) (.alt 11 (.alt 1 (.alt 12 (.q 13 (.q 14 (.alt 15 .done .nil))) .nil) (.alt 12 (.q 1 (.q 13 (.q 14 (.alt 15 .done .nil)))) .nil)) .nil)) .nil)) (.alt 10 (.alt 1 (.alt 8 (.alt 11 (.alt 12 (.q 13 (.q 14 (.alt 15 .done .nil))) .nil) .nil) .nil) (.alt 8 (.alt 1 (.alt 11 (.alt 12 (.q 13 (.q 14 (.alt 15 .done .nil))) .nil) .nil) (.alt 11 (.alt 1 (.alt 12 (.q 13 (.q 14 (.alt 15 .done .nil))) .nil) (.alt 12 (.q 1 (.q 13 (.q 14 (.alt 15 .done .nil)))) .nil)) .nil)) .nil)) .nil))) .nil))) (.alt 9 (.alt 1 (.alt 7 (.alt 8 (.alt 10 (.alt 11 (.alt 12 (.q 13 (.q 14 (.alt 15 .done .nil))) .nil) .nil) .nil) (.alt 10 (.alt 8 (.alt 11 (.alt 12 (.q 13 (.q 14 (.alt 15 .done .nil))) .nil) .nil) .nil) .nil)) (.alt 10 (.alt 7 (.alt 8 (.alt 11 (.alt 12 (.q 13 (.q 14 (.alt 15 .done .nil))) .nil) .nil) .nil) .nil) .nil)) (.alt 7 (.alt 1 (.alt 8 (.alt 10 (.alt 11 (.alt 12 (.q 13 (.q 14 (.alt 15 .done .nil))) .nil) .nil) .nil) (.alt 10 (.alt 8 (.alt 11 (.alt 12 (.q 13 (.q 14 (.alt 15 .done .nil))) .nil) .nil) .nil) .nil)) (.alt 8 (.alt 1 (.alt 10 (.alt 11 (.alt 12 (.q 13 (.q 14 (.alt 15 .done .nil))) .nil) .nil) .nil) (.alt 10 (.alt 1 (.alt 11 (.alt 12 (.q 13 (.q 14 (.alt 15 .done .nil))) .nil) .nil) (.alt 11 (.alt 1 (.alt 12 (.q 13 (.q 14 (.alt 15 .done .nil))) .nil) (.alt 12 (.q 1 (.q 13 (.q 14 (.alt 15 .done .nil)))) .nil)) .nil)) .nil)) (.alt 10 (.alt 1 (.alt 8 (.alt 11 (.alt 12 (.q 13 (.q 14 (.alt 15 .done .nil))) .nil) .nil) .nil) (.alt 8 (.alt 1 (.alt 11 (.alt 12 (.q 13 (.q 14 (.alt 15 .done .nil))) .nil) .nil) (.alt 11 (.alt 1 (.alt 12 (.q 13 (.q 14 (.alt 15 .done .nil))) .nil) (.alt 12 (.q 1 (.q 13 (.q 14 (.alt 15 .done .nil)))) .nil)) .nil)) .nil)) .nil))) (.alt 10 (.alt 1 (.alt 7 (.alt 8 (.alt 11 (.alt 12 (.q 13 (.q 14 (.alt 15 .done .nil))) .nil) .nil) .nil) .nil) (.alt 7 (.alt 1 (.alt 8 (.alt 11 (.alt 12 (.q 13 (.q 14 (.alt 15 .done .nil))) .nil) .nil) .nil) (.alt 8 (.alt 1 (.alt 11 (.alt 12 (.q 13 (.q 14 (.alt 15 .done .nil))) .nil) .nil) (.alt 11 (.alt 1 (.alt 12 (.q 13 (.q 14 (.alt 15 .done .nil))) .nil) (.alt 12 (.q 1 (.q 13 (.q 14 (.alt 15 .done .nil)))) .nil)) .nil)) .nil)) .nil)) .nil))) .nil))))))))
def ImQ (v : V) (bs : List Blk) : Prop := ∃ (o : TOutline) (ns : List Int) (ms : List TPt) (dp : Bool), o.fLoops.length ≤ 13 ∧ ns.length ≤ 1000 ∧ ms.length ≤ 1000 ∧ v = .tup [.st [.own 1 0 o.fLoops.length], .own 2 0 ns.length, .own 3 0 ms.length] ∧ bs = [.arr 1 (o.fLoops.map TLoop.D) dp, .arr 1 (ns.map (D.int .i64)) true, .arr 2 (ms.map TPt.D) true]
theorem cnK_B {m : Nat} : ∀ {ls : List TLoop}, (∀ l ∈ ls, l.fKnots.length ≤ m) → cnK ls ≤ m * ls.length
  | [], _ => by simp [cnK]
  | l :: t, h => by
    have h1 := cnK_B (ls := t) (fun x hx => h x (by simp [hx]))
    have h2 := h l (by simp)
    rw [cnK, List.length_cons, Nat.mul_succ]
    omega
theorem l30CountB_v (o : TOutline) (hC : cnK o.fLoops ≤ 1000000) (hl1 : o.fLoops.length ≤ 1000000) : PC Try.prog 21 [.pX o.D] (.d (.int .i64 (cnK o.fLoops : Nat))) [] := by
  refine pc_intro ttOk (by kernel_rfl) Try.func21 rfl (by kernel_rfl) (by kernel_rfl) (by kernel_rfl) (fun hw => ?_)
  have hL : (o.fLoops.map TLoop.D).length = o.fLoops.length := List.length_map _
  (conv => whnf)
  (repeat (refine stg_ ?_))
  refine LoopW.go (α := Nat) (fun k => [(0, .pX o.D), (3, .d (.int .i64 (cnK (o.fLoops.take k) : Nat))), (4, .d (.int .i64 k))]) (fun _ => [.gone]) (fun k => k ≤ o.fLoops.length) (fun k => o.fLoops.length - k) 0 covT_ (by omega) (fun k hk => ?_)
  have hT := cnK_take o.fLoops k
  (conv => whnf)
  (refine br_ (fun h1 => ?_) (fun h1 => ?_))
  · obtain ⟨l, hl⟩ := at_lt' (xs := o.fLoops) (k := k) (by omega)
    have hS : cnK (o.fLoops.take (k + 1)) = cnK (o.fLoops.take k) + l.fKnots.length := by rw [take_snoc_get hl, cnK_snoc]
    have hLk : (l.fKnots.map TKnot.D).length = l.fKnots.length := List.length_map _
    have hT2 := cnK_take o.fLoops (k + 1)
    (repeat (refine stg_ ?_))
    refine NextW.go (k + 1) (Weak.cov ⟨rfl, ?_, rfl, trivial⟩ ⟨trivial, trivial⟩ rfl) (by omega) (by omega)
    rw [hS, ← hLk]; rfl
  · (repeat (refine stg_ ?_))
    (refine RetOK.d rfl rfl ?_; conv => whnf)
    rw [List.take_of_length_le (by omega)]
theorem HoW.id {h : List Blk} {g len cap : Nat} {K : V → Prop} (H : HoW h g len cap K) : HoW h g len cap K := H
def SJ (code : List UInt8) (s : Nat → Value) (v : V) (e : Env) (h : List Blk) : Prop := ∃ (pl sd : Int) (ls : List TLoop) (dp : Bool) (x : Int), 0 ≤ pl ∧ pl ≤ 10000 ∧ stOK pl sd ∧ (ls.length ≤ 13 ∧ ∀ l ∈ ls, l.fKnots.length ≤ 62) ∧ 0 ≤ x ∧ x ≤ 101 ∧ v = .d (.int .i64 x) ∧
  e = [(0, .pB 3 [] 0), (1, .pB 11 [] 0), (2, .d (.int .i64 0)), (10, .d (.int .i64 0)), (6, .pB 13 [] 0)] ∧
  h = [.gone, .box (.st [.nils]), .gone, .box (.d (srcD (code.map bD) pl sd)), .gone, .gone, .arr 1 (ls.map TLoop.D) dp, .gone, .gone, .gone, .box (.st [.own 6 0 ls.length]), .box (.st [.d (.str .empty), .d (.int .i64 0), .d (.int .i64 0), .st [.own 6 0 ls.length], .nils, .nils, .d (.str .empty)]), .keep [(2, .pB 1 [] 0), (5, .pB 3 [] 0), (6, .pB 10 [] 0)] s, .box (.st [.d (.int .i64 0), .nils, .nils, .d (.int .i64 0)])]
set_option maxRecDepth 100000 in
set_option maxHeartbeats 40000000 in
theorem DrawInferMoves_x (code : List UInt8) : PX Try.prog 5 [.d (.lst (code.map bD))] ImQ := by
  refine px_intro ttOk (by kernel_rfl) Try.func5 rfl (by kernel_rfl) (by kernel_rfl) (by kernel_rfl) (fun hw => ?_)
  have c0 := l10Draw_z code
  have c16 := pick_e code 16
  have c101 := pick_e code 101
  have o2 := one_e code 2
  have c300 := l03Draw_z code 300 (by omega) (by omega)
  (conv => whnf)
  (repeat (refine stg_ ?_))
  (refine CallW.inl ttOk (by kernel_rfl) Try.func8 rfl (by kernel_rfl) (by kernel_rfl) (by rfl) (fun s => ?_); (conv => whnf))
  (repeat (refine stg_ ?_))
  (refine And.intro rfl ?_; (conv => whnf))
  (repeat (refine stg_ ?_))
  (refine CallW.inl' ttOk (by kernel_rfl) Try.func9 rfl (by kernel_rfl) (by kernel_rfl) (by rfl) [(2, .pB 1 [] 0), (5, .pB 3 [] 0)] (by (conv => whnf); (repeat' (first | exact trivial | (refine ⟨?_, ?_⟩) | rfl))) (fun s => ?_); (conv => whnf))
  (repeat (refine stg_ ?_))
  (refine clz0_ c0 (by omega) ?_; rintro v bs pl1 sd1 ⟨ls, ⟨hl1, hl2⟩, rfl, rfl⟩ hp1 hp2 hs1 <;> refine ⟨rfl, ?_⟩ <;> (conv => whnf))
  have hL : (ls.map TLoop.D).length = ls.length := List.length_map _
  apply share1 (S := SJ code)
  · intro HJ
    (repeat (refine stg_ ?_))
    (refine br_ (fun h0 => ?_) (fun h0 => ?_))
    · (repeat (refine stg_ ?_))
      (refine And.intro rfl ?_; (conv => whnf))
      (repeat (refine stg_ ?_))
      (refine CallW.inl' ttOk (by kernel_rfl) Try.func10 rfl (by kernel_rfl) (by kernel_rfl) (by rfl) [(2, .pB 1 [] 0), (5, .pB 3 [] 0), (6, .pB 8 [] 0)] (by (conv => whnf); (repeat' (first | exact trivial | (refine ⟨?_, ?_⟩) | rfl))) (fun s => ?_); (conv => whnf))
      (repeat (refine stg_ ?_))
      refine clsS_ c101 (by assumption) (by omega) (fun _ => pk_res) _ ?_ (HJ s)
      rintro _ pl2 sd2 ⟨x, rfl, hx0, hx⟩ q1 q2 q3
      refine ⟨_, _, ⟨pl2, sd2, ls, true, x, by omega, by omega, q3, ⟨by omega, fun l hl => by have := hl2 l hl; omega⟩, by omega, by omega, rfl, rfl, rfl⟩, ?_⟩
      refine Weak.trans (Weak.cov (e' := [(0, .pB 3 [] 0), (1, .pB 9 [] 0), (2, .d (.int .i64 0)), (10, .d (.int .i64 0)), (6, .pB 11 [] 0)]) (h' := [.gone, .box (.st [.nils]), .gone, .box (.d (srcD (code.map bD) pl2 sd2)), .gone, .gone, .arr 1 (ls.map TLoop.D) true, .gone, .box (.st [.own 6 0 ls.length]), .box (.st [.d (.str .empty), .d (.int .i64 0), .d (.int .i64 0), .st [.own 6 0 ls.length], .nils, .nils, .d (.str .empty)]), .keep [(2, .pB 1 [] 0), (5, .pB 3 [] 0), (6, .pB 8 [] 0)] s, .box (.st [.d (.int .i64 0), .nils, .nils, .d (.int .i64 0)])]) ?_ ?_ ?_) (Weak.trans (Weak.pushE 1 true) (Weak.trans (Weak.pushE 1 true) (Weak.trans (Weak.swap 11 13 ?_) (Weak.trans (Weak.cov (e' := [(0, .pB 3 [] 0), (1, .pB 9 [] 0), (2, .d (.int .i64 0)), (10, .d (.int .i64 0)), (6, .pB 13 [] 0)]) (h' := [.gone, .box (.st [.nils]), .gone, .box (.d (srcD (code.map bD) pl2 sd2)), .gone, .gone, .arr 1 (ls.map TLoop.D) true, .gone, .box (.st [.own 6 0 ls.length]), .box (.st [.d (.str .empty), .d (.int .i64 0), .d (.int .i64 0), .st [.own 6 0 ls.length], .nils, .nils, .d (.str .empty)]), .keep [(2, .pB 1 [] 0), (5, .pB 3 [] 0), (6, .pB 8 [] 0)] s, .arr 1 [] true, .arr 1 [] true, .box (.st [.d (.int .i64 0), .nils, .nils, .d (.int .i64 0)])]) ?_ ?_ ?_) (Weak.trans (Weak.swap 10 12 ?_) (Weak.trans (Weak.cov (e' := [(0, .pB 3 [] 0), (1, .pB 9 [] 0), (2, .d (.int .i64 0)), (10, .d (.int .i64 0)), (6, .pB 13 [] 0)]) (h' := [.gone, .box (.st [.nils]), .gone, .box (.d (srcD (code.map bD) pl2 sd2)), .gone, .gone, .arr 1 (ls.map TLoop.D) true, .gone, .box (.st [.own 6 0 ls.length]), .box (.st [.d (.str .empty), .d (.int .i64 0), .d (.int .i64 0), .st [.own 6 0 ls.length], .nils, .nils, .d (.str .empty)]), .arr 1 [] true, .arr 1 [] true, .keep [(2, .pB 1 [] 0), (5, .pB 3 [] 0), (6, .pB 8 [] 0)] s, .box (.st [.d (.int .i64 0), .nils, .nils, .d (.int .i64 0)])]) ?_ ?_ ?_) (Weak.trans (Weak.swap 9 11 ?_) (Weak.trans (Weak.cov (e' := [(0, .pB 3 [] 0), (1, .pB 11 [] 0), (2, .d (.int .i64 0)), (10, .d (.int .i64 0)), (6, .pB 13 [] 0)]) (h' := [.gone, .box (.st [.nils]), .gone, .box (.d (srcD (code.map bD) pl2 sd2)), .gone, .gone, .arr 1 (ls.map TLoop.D) true, .gone, .box (.st [.own 6 0 ls.length]), .arr 1 [] true, .arr 1 [] true, .box (.st [.d (.str .empty), .d (.int .i64 0), .d (.int .i64 0), .st [.own 6 0 ls.length], .nils, .nils, .d (.str .empty)]), .keep [(2, .pB 1 [] 0), (5, .pB 3 [] 0), (6, .pB 8 [] 0)] s, .box (.st [.d (.int .i64 0), .nils, .nils, .d (.int .i64 0)])]) ?_ ?_ ?_) (Weak.trans (Weak.swap 8 10 ?_) (Weak.cov ?_ ?_ ?_))))))))))
      all_goals first | (focus ((repeat' (first | exact trivial | with_reducible rfl | (refine ⟨?_, ?_⟩) | rfl)); done)) | rfl
    · obtain ⟨l0, rest, hls⟩ : ∃ l0 rest, ls = l0 :: rest := by
        cases hq : ls with
        | nil => rw [hq] at h0; exact absurd rfl h0
        | cons a b => exact ⟨a, b, rfl⟩
      have hml : ls.map TLoop.D = l0.D :: rest.map TLoop.D := by rw [hls]; rfl
      have hlen : ls.length = rest.length + 1 := by rw [hls]; rfl
      have hk0 := hl2 l0 (by rw [hls]; simp)
      (repeat (refine stg_ ?_))
      refine clsX_ c16 (by assumption) (by omega) (fun _ => pk_res) (fun v e h => ∃ (x pl sd : Int), pl1 ≤ pl ∧ pl ≤ pl1 + 2 ∧ stOK pl sd ∧ 0 ≤ x ∧ x < 16 ∧ v = .d (.int .i64 x) ∧ e = [(0, .pB 3 [] 0), (2, .pB 5 [] 0), (3, .pB 7 [] 0)] ∧
        ((¬ (x = 0 ∨ x = 2 ∨ x = 4 ∨ x = 5) ∧ h = [.gone, .box (.st [.nils]), .gone, .box (.d (srcD (code.map bD) pl sd)), .keep [(2, .pB 1 [] 0), (5, .pB 3 [] 0)] s, .box (.st [.nils]), .arr 1 (ls.map TLoop.D) true, .box (.st [.own 6 0 ls.length])]) ∨
        ((x = 0 ∨ x = 2 ∨ x = 4 ∨ x = 5) ∧ ∃ g cap sz t, (cap = 0 ∨ cap * 3 < sz) ∧ h = [.gone, .box (.st [.nils]), .gone, .box (.d (srcD (code.map bD) pl sd)), .keep [(2, .pB 1 [] 0), (5, .pB 3 [] 0)] s, .box (.st [.nils]), .arr 1 (.st [.hole g l0.fKnots.length cap] :: rest.map TLoop.D) true, .box (.st [.own 6 0 ls.length]), .arr 3 (l0.fKnots.map TKnot.D) true, .pin 8 g sz t]))) ?_ ?_
      · rintro _ pl2 sd2 ⟨x, rfl, hx0, hx⟩ q1 q2 q3
        by_cases hx4 : x = 0 ∨ x = 2 ∨ x = 4 ∨ x = 5
        · refine WeakX.pre (e0 := [(0, .pB 3 [] 0), (2, .pB 5 [] 0), (3, .pB 7 [] 0)]) (h0 := [.gone, .box (.st [.nils]), .gone, .box (.d (srcD (code.map bD) pl2 sd2)), .keep [(2, .pB 1 [] 0), (5, .pB 3 [] 0)] s, .box (.st [.nils]), .arr 1 (ls.map TLoop.D) true, .box (.st [.own 6 0 ls.length])]) (Weak.cov ?_ ?_ ?_) (WeakX.out (b := 6) (k := 0) (n1 := 3) (p := [0]) (x := l0.D) (ys := l0.fKnots.map TKnot.D) (U := fun u => .st [u]) rfl rfl (by rw [hml]; rfl) rfl (fun u => rfl) ?_ ?_)
          · (repeat' (first | exact trivial | with_reducible rfl | (refine ⟨?_, ?_⟩) | rfl))
          · (repeat' (first | exact trivial | with_reducible rfl | (refine ⟨?_, ?_⟩) | rfl))
          · rfl
          · intro y hy
            obtain ⟨kn, _, rfl⟩ := List.mem_map.1 hy
            rfl
          · intro g cap sz t n0 hn0 hcap
            have hn3 : n0 = 3 := hn0 (by
              intro e
              have := congrArg List.length e
              rw [List.length_map] at this
              simp only [List.length_nil] at this
              omega)
            subst hn3
            rw [hml, List.length_map]
            refine WeakX.of (Weak.refl _ _) ⟨x, pl2, sd2, by omega, by omega, q3, by omega, by omega, rfl, rfl, .inr ⟨hx4, g, cap, sz, t, hcap, rfl⟩⟩
        · refine WeakX.of (Weak.cov ?_ ?_ ?_) ⟨x, pl2, sd2, by omega, by omega, q3, by omega, by omega, rfl, rfl, .inl ⟨hx4, rfl⟩⟩
          · (repeat' (first | exact trivial | with_reducible rfl | (refine ⟨?_, ?_⟩) | rfl))
          · (repeat' (first | exact trivial | with_reducible rfl | (refine ⟨?_, ?_⟩) | rfl))
          · rfl
      rintro v e h ⟨x, pl2, sd2, q1, q2, q3, hx0, hx, rfl, rfl, ⟨hx4, rfl⟩ | ⟨hx4, g, cap, sz, t, hcap, rfl⟩⟩
      · (conv => whnf)
        (repeat (refine stg_ ?_))
        refine br_ (fun hb => ?_) (fun hb => ?_)
        · exfalso; omega
        (repeat (refine stg_ ?_))
        refine br_ (fun hb1 => ?_) (fun hb1 => ?_)
        · (repeat (first | ((with_reducible apply ApW.id); (refine ApW.at (by simp only [List.length_cons, List.length_nil]; show _ ≤ 9223372036854775807; omega) (by simp only [List.length_cons, List.length_nil]; show _ * 24 ≤ 140737488355328; omega) ?_; (conv => whnf))) | ((fail_if_success (with_reducible apply RegD.id)); (fail_if_success (with_reducible apply ApW.id)); (refine stg_ ?_))))
          have hap : Blk.arr 1 ((ls.map TLoop.D).take ls.length ++ [TLoop.D ⟨[]⟩]) true = Blk.arr 1 ((ls ++ [(⟨[]⟩ : TLoop)]).map TLoop.D) true := by
            rw [List.take_of_length_le (by omega), List.map_append]; rfl
          (refine And.intro rfl ?_; (conv => whnf))
          (repeat (refine stg_ ?_))
          (refine CallW.inl' ttOk (by kernel_rfl) Try.func10 rfl (by kernel_rfl) (by kernel_rfl) (by rfl) [(2, .pB 1 [] 0), (5, .pB 3 [] 0), (6, .pB 9 [] 0)] (by (conv => whnf); (repeat' (first | exact trivial | (refine ⟨?_, ?_⟩) | rfl))) (fun s => ?_); (conv => whnf))
          (repeat (refine stg_ ?_))
          refine clsS_ c101 (by assumption) (by omega) (fun _ => pk_res) _ ?_ (HJ s)
          rintro _ plz sdz ⟨z, rfl, hz0, hz⟩ z1 z2 z3
          refine ⟨_, _, ⟨plz, sdz, (ls ++ [(⟨[]⟩ : TLoop)]), true, z, by omega, by omega, z3, ⟨by simp; omega, (fun l hl => by
            rcases List.mem_append.1 hl with hl | hl
            · have := hl2 l hl; omega
            · obtain rfl : l = ⟨[]⟩ := by simpa using hl
              simp)⟩, by omega, by omega, rfl, rfl, rfl⟩, ?_⟩
          rw [show (ls ++ [(⟨[]⟩ : TLoop)]).length = ls.length + 1 from by simp]
          refine Weak.trans (Weak.cov (e' := [(0, .pB 3 [] 0), (1, .pB 10 [] 0), (2, .d (.int .i64 0)), (10, .d (.int .i64 0)), (6, .pB 12 [] 0)]) (h' := [.gone, .box (.st [.nils]), .gone, .box (.d (srcD (code.map bD) plz sdz)), .gone, .gone, .arr 1 ((ls ++ [(⟨[]⟩ : TLoop)]).map TLoop.D) true, .gone, .gone, .box (.st [.own 6 0 (ls.length + 1)]), .box (.st [.d (.str .empty), .d (.int .i64 0), .d (.int .i64 0), .st [.own 6 0 (ls.length + 1)], .nils, .nils, .d (.str .empty)]), .keep [(2, .pB 1 [] 0), (5, .pB 3 [] 0), (6, .pB 9 [] 0)] s, .box (.st [.d (.int .i64 0), .nils, .nils, .d (.int .i64 0)])]) ?_ ?_ ?_) (Weak.trans (Weak.pushE 1 true) (Weak.trans (Weak.swap 12 13 ?_) (Weak.trans (Weak.cov (e' := [(0, .pB 3 [] 0), (1, .pB 10 [] 0), (2, .d (.int .i64 0)), (10, .d (.int .i64 0)), (6, .pB 13 [] 0)]) (h' := [.gone, .box (.st [.nils]), .gone, .box (.d (srcD (code.map bD) plz sdz)), .gone, .gone, .arr 1 ((ls ++ [(⟨[]⟩ : TLoop)]).map TLoop.D) true, .gone, .gone, .box (.st [.own 6 0 (ls.length + 1)]), .box (.st [.d (.str .empty), .d (.int .i64 0), .d (.int .i64 0), .st [.own 6 0 (ls.length + 1)], .nils, .nils, .d (.str .empty)]), .keep [(2, .pB 1 [] 0), (5, .pB 3 [] 0), (6, .pB 9 [] 0)] s, .arr 1 [] true, .box (.st [.d (.int .i64 0), .nils, .nils, .d (.int .i64 0)])]) ?_ ?_ ?_) (Weak.trans (Weak.swap 11 12 ?_) (Weak.trans (Weak.cov (e' := [(0, .pB 3 [] 0), (1, .pB 10 [] 0), (2, .d (.int .i64 0)), (10, .d (.int .i64 0)), (6, .pB 13 [] 0)]) (h' := [.gone, .box (.st [.nils]), .gone, .box (.d (srcD (code.map bD) plz sdz)), .gone, .gone, .arr 1 ((ls ++ [(⟨[]⟩ : TLoop)]).map TLoop.D) true, .gone, .gone, .box (.st [.own 6 0 (ls.length + 1)]), .box (.st [.d (.str .empty), .d (.int .i64 0), .d (.int .i64 0), .st [.own 6 0 (ls.length + 1)], .nils, .nils, .d (.str .empty)]), .arr 1 [] true, .keep [(2, .pB 1 [] 0), (5, .pB 3 [] 0), (6, .pB 9 [] 0)] s, .box (.st [.d (.int .i64 0), .nils, .nils, .d (.int .i64 0)])]) ?_ ?_ ?_) (Weak.trans (Weak.swap 10 11 ?_) (Weak.trans (Weak.cov (e' := [(0, .pB 3 [] 0), (1, .pB 11 [] 0), (2, .d (.int .i64 0)), (10, .d (.int .i64 0)), (6, .pB 13 [] 0)]) (h' := [.gone, .box (.st [.nils]), .gone, .box (.d (srcD (code.map bD) plz sdz)), .gone, .gone, .arr 1 ((ls ++ [(⟨[]⟩ : TLoop)]).map TLoop.D) true, .gone, .gone, .box (.st [.own 6 0 (ls.length + 1)]), .arr 1 [] true, .box (.st [.d (.str .empty), .d (.int .i64 0), .d (.int .i64 0), .st [.own 6 0 (ls.length + 1)], .nils, .nils, .d (.str .empty)]), .keep [(2, .pB 1 [] 0), (5, .pB 3 [] 0), (6, .pB 9 [] 0)] s, .box (.st [.d (.int .i64 0), .nils, .nils, .d (.int .i64 0)])]) ?_ ?_ ?_) (Weak.trans (Weak.swap 9 10 ?_) (Weak.cov ?_ ?_ ?_)))))))))
          all_goals first | (focus ((repeat' (first | exact trivial | with_reducible rfl | with_reducible exact hap | (refine ⟨?_, ?_⟩) | exact hap | rfl)); done)) | rfl
        (repeat (refine stg_ ?_))
        refine br_ (fun hb => ?_) (fun hb => ?_)
        · exfalso; omega
        (repeat (refine stg_ ?_))
        refine br_ (fun hb3 => ?_) (fun hb3 => ?_)
        · (repeat (refine stg_ ?_))
          refine LoopW.go (α := List TLoop) (fun q => [(0, .pB 3 [] 0), (2, .pB 5 [] 0), (3, .pB 7 [] 0)]) (fun q => [.gone, .box (.st [.nils]), .gone, .box (.d (srcD (code.map bD) pl2 sd2)), .keep [(2, .pB 1 [] 0), (5, .pB 3 [] 0)] s, .box (.st [.nils]), .arr 1 (q.map TLoop.D) false, .box (.st [.own 6 0 q.length])])
            (fun q => 1 ≤ q.length ∧ q.length ≤ 12 ∧ ∀ l ∈ q, l.fKnots.length ≤ 9) (fun q => 12 - q.length) ls (Weak.trans (Weak.cov (e' := [(0, .pB 3 [] 0), (2, .pB 5 [] 0), (3, .pB 7 [] 0)]) (h' := [.gone, .box (.st [.nils]), .gone, .box (.d (srcD (code.map bD) pl2 sd2)), .keep [(2, .pB 1 [] 0), (5, .pB 3 [] 0)] s, .box (.st [.nils]), .arr 1 (ls.map TLoop.D) true, .box (.st [.own 6 0 ls.length])]) ?_ ?_ ?_) (Weak.trans (Weak.shal 6 rfl rfl) (Weak.cov ?_ ?_ ?_))) ⟨by omega, by omega, fun l hl => (hl2 l hl).2⟩ ?_
          · (repeat' (first | exact trivial | with_reducible rfl | (refine ⟨?_, ?_⟩) | rfl))
          · (repeat' (first | exact trivial | with_reducible rfl | (refine ⟨?_, ?_⟩) | rfl))
          · rfl
          · (repeat' (first | exact trivial | with_reducible rfl | (refine ⟨?_, ?_⟩) | rfl))
          · (repeat' (first | exact trivial | with_reducible rfl | (refine ⟨?_, ?_⟩) | rfl))
          · rfl
          rintro q ⟨w1, w2, w3⟩
          have hLq : (q.map TLoop.D).length = q.length := List.length_map _
          (conv => whnf)
          (repeat (refine stg_ ?_))
          obtain ⟨q0, hq0⟩ := at_lt' (xs := q) (k := 0) (by omega)
          have he : (q.map TLoop.D)[Int.toNat 0 + 0]? = some q0.D := by show (q.map TLoop.D)[0]? = _; rw [List.getElem?_map, hq0]; rfl
          have hq9 := w3 q0 (List.mem_of_getElem? hq0)
          refine br_ (fun hb9 => ?_) (fun hb9 => ?_)
          · (repeat (first | ((with_reducible apply ApW.id); (refine ApW.at (by simp only [List.length_cons, List.length_nil]; show _ ≤ 9223372036854775807; omega) (by simp only [List.length_cons, List.length_nil]; show _ * 24 ≤ 140737488355328; omega) ?_; (conv => whnf))) | ((fail_if_success (with_reducible apply RegD.id)); (fail_if_success (with_reducible apply ApW.id)); (refine stg_ ?_))))
            (refine RegD.treeT trB13 (by kernel_rfl) ?_; (conv => whnf))
            (repeat (refine stg_ ?_))
            refine NextW.go (q ++ [q0]) (Weak.cov ?_ ?_ ?_) ⟨by simp, by simp; omega, ?_⟩ (by simp; omega)
            · (repeat' (first | exact trivial | with_reducible rfl | (refine ⟨?_, ?_⟩) | rfl))
            · refine ⟨trivial, rfl, trivial, rfl, rfl, rfl, ?_, ?_, trivial⟩
              · show Blk.arr 1 ((q.map TLoop.D).take q.length ++ [q0.D]) false = Blk.arr 1 ((q ++ [q0]).map TLoop.D) false
                rw [List.take_of_length_le (by omega), List.map_append]; rfl
              · show _ = Blk.box (.st [.own 6 0 (q ++ [q0]).length])
                rw [show (q ++ [q0]).length = q.length + 1 from by simp]; rfl
            · rfl
            · intro l hl
              rcases List.mem_append.1 hl with hl | hl
              · exact w3 l hl
              · obtain rfl : l = q0 := by simpa using hl
                exact hq9
          · (repeat (refine stg_ ?_))
            refine clsS_ o2 (by assumption) (by omega) (fun _ => on_res) (fun v e h => ∃ pl sd b, pl2 ≤ pl ∧ pl ≤ pl2 + 2 ∧ stOK pl sd ∧ v = .d (.bool b) ∧ e = [(0, .pB 3 [] 0), (2, .pB 5 [] 0), (3, .pB 7 [] 0)] ∧ h = [.gone, .box (.st [.nils]), .gone, .box (.d (srcD (code.map bD) pl sd)), .keep [(2, .pB 1 [] 0), (5, .pB 3 [] 0)] s, .box (.st [.nils]), .arr 1 (q.map TLoop.D) false, .box (.st [.own 6 0 q.length])]) ?_ ?_
            · rintro _ pl3 sd3 ⟨b, rfl⟩ z1 z2 z3
              refine ⟨_, _, ⟨pl3, sd3, b, by omega, by omega, z3, rfl, rfl, rfl⟩, ?_⟩
              (refine Weak.cov ?_ ?_ ?_; (focus (repeat' (first | exact trivial | with_reducible rfl | (refine ⟨?_, ?_⟩) | rfl))); (focus (repeat' (first | exact trivial | with_reducible rfl | (refine ⟨?_, ?_⟩) | rfl))); (focus rfl))
            rintro v e h ⟨pl3, sd3, b, z1, z2, z3, rfl, rfl, rfl⟩
            (conv => whnf)
            refine br_ (fun hb8 => ?_) (fun hb8 => ?_)
            · (repeat (first | ((with_reducible apply ApW.id); (refine ApW.at (by simp only [List.length_cons, List.length_nil]; show _ ≤ 9223372036854775807; omega) (by simp only [List.length_cons, List.length_nil]; show _ * 24 ≤ 140737488355328; omega) ?_; (conv => whnf))) | ((fail_if_success (with_reducible apply RegD.id)); (fail_if_success (with_reducible apply ApW.id)); (refine stg_ ?_))))
              (refine RegD.treeT trB15 (by kernel_rfl) ?_; (conv => whnf))
              (repeat (refine stg_ ?_))
              have hap : Blk.arr 1 ((q.map TLoop.D).take q.length ++ [q0.D]) false = Blk.arr 1 ((q ++ [q0]).map TLoop.D) false := by
                rw [List.take_of_length_le (by omega), List.map_append]; rfl
              (refine And.intro rfl ?_; (conv => whnf))
              (repeat (refine stg_ ?_))
              (refine CallW.inl' ttOk (by kernel_rfl) Try.func10 rfl (by kernel_rfl) (by kernel_rfl) (by rfl) [(2, .pB 1 [] 0), (5, .pB 3 [] 0), (6, .pB 9 [] 0)] (by (conv => whnf); (repeat' (first | exact trivial | (refine ⟨?_, ?_⟩) | rfl))) (fun s => ?_); (conv => whnf))
              (repeat (refine stg_ ?_))
              refine clsS_ c101 (by assumption) (by omega) (fun _ => pk_res) _ ?_ (HJ s)
              rintro _ plz sdz ⟨z, rfl, hz0, hz⟩ z1 z2 z3
              refine ⟨_, _, ⟨plz, sdz, (q ++ [q0]), false, z, by omega, by omega, z3, ⟨by simp; omega, (fun l hl => by
                rcases List.mem_append.1 hl with hl | hl
                · have := w3 l hl; omega
                · obtain rfl : l = q0 := by simpa using hl
                  omega)⟩, by omega, by omega, rfl, rfl, rfl⟩, ?_⟩
              rw [show (q ++ [q0]).length = q.length + 1 from by simp]
              refine Weak.trans (Weak.cov (e' := [(0, .pB 3 [] 0), (1, .pB 10 [] 0), (2, .d (.int .i64 0)), (10, .d (.int .i64 0)), (6, .pB 12 [] 0)]) (h' := [.gone, .box (.st [.nils]), .gone, .box (.d (srcD (code.map bD) plz sdz)), .gone, .gone, .arr 1 ((q ++ [q0]).map TLoop.D) false, .gone, .gone, .box (.st [.own 6 0 (q.length + 1)]), .box (.st [.d (.str .empty), .d (.int .i64 0), .d (.int .i64 0), .st [.own 6 0 (q.length + 1)], .nils, .nils, .d (.str .empty)]), .keep [(2, .pB 1 [] 0), (5, .pB 3 [] 0), (6, .pB 9 [] 0)] s, .box (.st [.d (.int .i64 0), .nils, .nils, .d (.int .i64 0)])]) ?_ ?_ ?_) (Weak.trans (Weak.pushE 1 true) (Weak.trans (Weak.swap 12 13 ?_) (Weak.trans (Weak.cov (e' := [(0, .pB 3 [] 0), (1, .pB 10 [] 0), (2, .d (.int .i64 0)), (10, .d (.int .i64 0)), (6, .pB 13 [] 0)]) (h' := [.gone, .box (.st [.nils]), .gone, .box (.d (srcD (code.map bD) plz sdz)), .gone, .gone, .arr 1 ((q ++ [q0]).map TLoop.D) false, .gone, .gone, .box (.st [.own 6 0 (q.length + 1)]), .box (.st [.d (.str .empty), .d (.int .i64 0), .d (.int .i64 0), .st [.own 6 0 (q.length + 1)], .nils, .nils, .d (.str .empty)]), .keep [(2, .pB 1 [] 0), (5, .pB 3 [] 0), (6, .pB 9 [] 0)] s, .arr 1 [] true, .box (.st [.d (.int .i64 0), .nils, .nils, .d (.int .i64 0)])]) ?_ ?_ ?_) (Weak.trans (Weak.swap 11 12 ?_) (Weak.trans (Weak.cov (e' := [(0, .pB 3 [] 0), (1, .pB 10 [] 0), (2, .d (.int .i64 0)), (10, .d (.int .i64 0)), (6, .pB 13 [] 0)]) (h' := [.gone, .box (.st [.nils]), .gone, .box (.d (srcD (code.map bD) plz sdz)), .gone, .gone, .arr 1 ((q ++ [q0]).map TLoop.D) false, .gone, .gone, .box (.st [.own 6 0 (q.length + 1)]), .box (.st [.d (.str .empty), .d (.int .i64 0), .d (.int .i64 0), .st [.own 6 0 (q.length + 1)], .nils, .nils, .d (.str .empty)]), .arr 1 [] true, .keep [(2, .pB 1 [] 0), (5, .pB 3 [] 0), (6, .pB 9 [] 0)] s, .box (.st [.d (.int .i64 0), .nils, .nils, .d (.int .i64 0)])]) ?_ ?_ ?_) (Weak.trans (Weak.swap 10 11 ?_) (Weak.trans (Weak.cov (e' := [(0, .pB 3 [] 0), (1, .pB 11 [] 0), (2, .d (.int .i64 0)), (10, .d (.int .i64 0)), (6, .pB 13 [] 0)]) (h' := [.gone, .box (.st [.nils]), .gone, .box (.d (srcD (code.map bD) plz sdz)), .gone, .gone, .arr 1 ((q ++ [q0]).map TLoop.D) false, .gone, .gone, .box (.st [.own 6 0 (q.length + 1)]), .arr 1 [] true, .box (.st [.d (.str .empty), .d (.int .i64 0), .d (.int .i64 0), .st [.own 6 0 (q.length + 1)], .nils, .nils, .d (.str .empty)]), .keep [(2, .pB 1 [] 0), (5, .pB 3 [] 0), (6, .pB 9 [] 0)] s, .box (.st [.d (.int .i64 0), .nils, .nils, .d (.int .i64 0)])]) ?_ ?_ ?_) (Weak.trans (Weak.swap 9 10 ?_) (Weak.cov ?_ ?_ ?_)))))))))
              all_goals first | (focus ((repeat' (first | exact trivial | with_reducible rfl | with_reducible exact hap | (refine ⟨?_, ?_⟩) | exact hap | rfl)); done)) | rfl
            · (repeat (refine stg_ ?_))
              (refine And.intro rfl ?_; (conv => whnf))
              (repeat (refine stg_ ?_))
              (refine CallW.inl' ttOk (by kernel_rfl) Try.func10 rfl (by kernel_rfl) (by kernel_rfl) (by rfl) [(2, .pB 1 [] 0), (5, .pB 3 [] 0), (6, .pB 8 [] 0)] (by (conv => whnf); (repeat' (first | exact trivial | (refine ⟨?_, ?_⟩) | rfl))) (fun s => ?_); (conv => whnf))
              (repeat (refine stg_ ?_))
              refine clsS_ c101 (by assumption) (by omega) (fun _ => pk_res) _ ?_ (HJ s)
              rintro _ plz sdz ⟨z, rfl, hz0, hz⟩ z1 z2 z3
              refine ⟨_, _, ⟨plz, sdz, q, false, z, by omega, by omega, z3, ⟨by omega, (fun l hl => by have := w3 l hl; omega)⟩, by omega, by omega, rfl, rfl, rfl⟩, ?_⟩
              refine Weak.trans (Weak.cov (e' := [(0, .pB 3 [] 0), (1, .pB 9 [] 0), (2, .d (.int .i64 0)), (10, .d (.int .i64 0)), (6, .pB 11 [] 0)]) (h' := [.gone, .box (.st [.nils]), .gone, .box (.d (srcD (code.map bD) plz sdz)), .gone, .gone, .arr 1 (q.map TLoop.D) false, .gone, .box (.st [.own 6 0 q.length]), .box (.st [.d (.str .empty), .d (.int .i64 0), .d (.int .i64 0), .st [.own 6 0 q.length], .nils, .nils, .d (.str .empty)]), .keep [(2, .pB 1 [] 0), (5, .pB 3 [] 0), (6, .pB 8 [] 0)] s, .box (.st [.d (.int .i64 0), .nils, .nils, .d (.int .i64 0)])]) ?_ ?_ ?_) (Weak.trans (Weak.pushE 1 true) (Weak.trans (Weak.pushE 1 true) (Weak.trans (Weak.swap 11 13 ?_) (Weak.trans (Weak.cov (e' := [(0, .pB 3 [] 0), (1, .pB 9 [] 0), (2, .d (.int .i64 0)), (10, .d (.int .i64 0)), (6, .pB 13 [] 0)]) (h' := [.gone, .box (.st [.nils]), .gone, .box (.d (srcD (code.map bD) plz sdz)), .gone, .gone, .arr 1 (q.map TLoop.D) false, .gone, .box (.st [.own 6 0 q.length]), .box (.st [.d (.str .empty), .d (.int .i64 0), .d (.int .i64 0), .st [.own 6 0 q.length], .nils, .nils, .d (.str .empty)]), .keep [(2, .pB 1 [] 0), (5, .pB 3 [] 0), (6, .pB 8 [] 0)] s, .arr 1 [] true, .arr 1 [] true, .box (.st [.d (.int .i64 0), .nils, .nils, .d (.int .i64 0)])]) ?_ ?_ ?_) (Weak.trans (Weak.swap 10 12 ?_) (Weak.trans (Weak.cov (e' := [(0, .pB 3 [] 0), (1, .pB 9 [] 0), (2, .d (.int .i64 0)), (10, .d (.int .i64 0)), (6, .pB 13 [] 0)]) (h' := [.gone, .box (.st [.nils]), .gone, .box (.d (srcD (code.map bD) plz sdz)), .gone, .gone, .arr 1 (q.map TLoop.D) false, .gone, .box (.st [.own 6 0 q.length]), .box (.st [.d (.str .empty), .d (.int .i64 0), .d (.int .i64 0), .st [.own 6 0 q.length], .nils, .nils, .d (.str .empty)]), .arr 1 [] true, .arr 1 [] true, .keep [(2, .pB 1 [] 0), (5, .pB 3 [] 0), (6, .pB 8 [] 0)] s, .box (.st [.d (.int .i64 0), .nils, .nils, .d (.int .i64 0)])]) ?_ ?_ ?_) (Weak.trans (Weak.swap 9 11 ?_) (Weak.trans (Weak.cov (e' := [(0, .pB 3 [] 0), (1, .pB 11 [] 0), (2, .d (.int .i64 0)), (10, .d (.int .i64 0)), (6, .pB 13 [] 0)]) (h' := [.gone, .box (.st [.nils]), .gone, .box (.d (srcD (code.map bD) plz sdz)), .gone, .gone, .arr 1 (q.map TLoop.D) false, .gone, .box (.st [.own 6 0 q.length]), .arr 1 [] true, .arr 1 [] true, .box (.st [.d (.str .empty), .d (.int .i64 0), .d (.int .i64 0), .st [.own 6 0 q.length], .nils, .nils, .d (.str .empty)]), .keep [(2, .pB 1 [] 0), (5, .pB 3 [] 0), (6, .pB 8 [] 0)] s, .box (.st [.d (.int .i64 0), .nils, .nils, .d (.int .i64 0)])]) ?_ ?_ ?_) (Weak.trans (Weak.swap 8 10 ?_) (Weak.cov ?_ ?_ ?_))))))))))
              all_goals first | (focus ((repeat' (first | exact trivial | with_reducible rfl | (refine ⟨?_, ?_⟩) | rfl)); done)) | rfl
        (repeat (refine stg_ ?_))
        refine br_ (fun hb => ?_) (fun hb => ?_)
        · exfalso; omega
        (repeat (refine stg_ ?_))
        refine br_ (fun hb => ?_) (fun hb => ?_)
        · exfalso; omega
        (repeat (refine stg_ ?_))
        (refine And.intro rfl ?_; (conv => whnf))
        (repeat (refine stg_ ?_))
        (refine CallW.inl' ttOk (by kernel_rfl) Try.func10 rfl (by kernel_rfl) (by kernel_rfl) (by rfl) [(2, .pB 1 [] 0), (5, .pB 3 [] 0), (6, .pB 8 [] 0)] (by (conv => whnf); (repeat' (first | exact trivial | (refine ⟨?_, ?_⟩) | rfl))) (fun s => ?_); (conv => whnf))
        (repeat (refine stg_ ?_))
        refine clsS_ c101 (by assumption) (by omega) (fun _ => pk_res) _ ?_ (HJ s)
        rintro _ plz sdz ⟨z, rfl, hz0, hz⟩ z1 z2 z3
        refine ⟨_, _, ⟨plz, sdz, ls, true, z, by omega, by omega, z3, ⟨by omega, fun l hl => by have := hl2 l hl; omega⟩, by omega, by omega, rfl, rfl, rfl⟩, ?_⟩
        refine Weak.trans (Weak.cov (e' := [(0, .pB 3 [] 0), (1, .pB 9 [] 0), (2, .d (.int .i64 0)), (10, .d (.int .i64 0)), (6, .pB 11 [] 0)]) (h' := [.gone, .box (.st [.nils]), .gone, .box (.d (srcD (code.map bD) plz sdz)), .gone, .gone, .arr 1 (ls.map TLoop.D) true, .gone, .box (.st [.own 6 0 ls.length]), .box (.st [.d (.str .empty), .d (.int .i64 0), .d (.int .i64 0), .st [.own 6 0 ls.length], .nils, .nils, .d (.str .empty)]), .keep [(2, .pB 1 [] 0), (5, .pB 3 [] 0), (6, .pB 8 [] 0)] s, .box (.st [.d (.int .i64 0), .nils, .nils, .d (.int .i64 0)])]) ?_ ?_ ?_) (Weak.trans (Weak.pushE 1 true) (Weak.trans (Weak.pushE 1 true) (Weak.trans (Weak.swap 11 13 ?_) (Weak.trans (Weak.cov (e' := [(0, .pB 3 [] 0), (1, .pB 9 [] 0), (2, .d (.int .i64 0)), (10, .d (.int .i64 0)), (6, .pB 13 [] 0)]) (h' := [.gone, .box (.st [.nils]), .gone, .box (.d (srcD (code.map bD) plz sdz)), .gone, .gone, .arr 1 (ls.map TLoop.D) true, .gone, .box (.st [.own 6 0 ls.length]), .box (.st [.d (.str .empty), .d (.int .i64 0), .d (.int .i64 0), .st [.own 6 0 ls.length], .nils, .nils, .d (.str .empty)]), .keep [(2, .pB 1 [] 0), (5, .pB 3 [] 0), (6, .pB 8 [] 0)] s, .arr 1 [] true, .arr 1 [] true, .box (.st [.d (.int .i64 0), .nils, .nils, .d (.int .i64 0)])]) ?_ ?_ ?_) (Weak.trans (Weak.swap 10 12 ?_) (Weak.trans (Weak.cov (e' := [(0, .pB 3 [] 0), (1, .pB 9 [] 0), (2, .d (.int .i64 0)), (10, .d (.int .i64 0)), (6, .pB 13 [] 0)]) (h' := [.gone, .box (.st [.nils]), .gone, .box (.d (srcD (code.map bD) plz sdz)), .gone, .gone, .arr 1 (ls.map TLoop.D) true, .gone, .box (.st [.own 6 0 ls.length]), .box (.st [.d (.str .empty), .d (.int .i64 0), .d (.int .i64 0), .st [.own 6 0 ls.length], .nils, .nils, .d (.str .empty)]), .arr 1 [] true, .arr 1 [] true, .keep [(2, .pB 1 [] 0), (5, .pB 3 [] 0), (6, .pB 8 [] 0)] s, .box (.st [.d (.int .i64 0), .nils, .nils, .d (.int .i64 0)])]) ?_ ?_ ?_) (Weak.trans (Weak.swap 9 11 ?_) (Weak.trans (Weak.cov (e' := [(0, .pB 3 [] 0), (1, .pB 11 [] 0), (2, .d (.int .i64 0)), (10, .d (.int .i64 0)), (6, .pB 13 [] 0)]) (h' := [.gone, .box (.st [.nils]), .gone, .box (.d (srcD (code.map bD) plz sdz)), .gone, .gone, .arr 1 (ls.map TLoop.D) true, .gone, .box (.st [.own 6 0 ls.length]), .arr 1 [] true, .arr 1 [] true, .box (.st [.d (.str .empty), .d (.int .i64 0), .d (.int .i64 0), .st [.own 6 0 ls.length], .nils, .nils, .d (.str .empty)]), .keep [(2, .pB 1 [] 0), (5, .pB 3 [] 0), (6, .pB 8 [] 0)] s, .box (.st [.d (.int .i64 0), .nils, .nils, .d (.int .i64 0)])]) ?_ ?_ ?_) (Weak.trans (Weak.swap 8 10 ?_) (Weak.cov ?_ ?_ ?_))))))))))
        all_goals first | (focus ((repeat' (first | exact trivial | with_reducible rfl | (refine ⟨?_, ?_⟩) | rfl)); done)) | rfl
      · obtain ⟨k0, hkz⟩ := at_lt' (xs := l0.fKnots) (k := 0) (by omega)
        have hez : (l0.fKnots.map TKnot.D)[Int.toNat 0 + 0]? = some k0.D := by show (l0.fKnots.map TKnot.D)[0]? = _; rw [List.getElem?_map, hkz]; rfl
        have hLk : (l0.fKnots.map TKnot.D).length = l0.fKnots.length := List.length_map _
        have hset : ∀ kn : TKnot, Blk.arr 3 ((l0.fKnots.map TKnot.D).set (Int.toNat 0 + 0) kn.D) true = Blk.arr 3 ((l0.fKnots.set 0 kn).map TKnot.D) true := fun kn => by rw [List.map_set]; rfl
        (conv => whnf)
        (repeat (refine stg_ ?_))
        refine br_ (fun hb => ?_) (fun hb => ?_)
        · (repeat (refine stg_ ?_))
          refine EoW.at rfl ?_
          (conv => whnf)
          refine ⟨⟨9, 8, 3, _, true, sz, t, rfl, rfl, hcap, ?_⟩⟩
          (conv => whnf)
          (repeat (refine stg_ ?_))
          (refine And.intro rfl ?_; (conv => whnf))
          (repeat (refine stg_ ?_))
          (refine CallW.inl' ttOk (by kernel_rfl) Try.func10 rfl (by kernel_rfl) (by kernel_rfl) (by rfl) [(2, .pB 1 [] 0), (5, .pB 3 [] 0), (6, .pB 10 [] 0)] (by (conv => whnf); (repeat' (first | exact trivial | (refine ⟨?_, ?_⟩) | rfl))) (fun s => ?_); (conv => whnf))
          (repeat (refine stg_ ?_))
          refine clsS_ c101 (by assumption) (by omega) (fun _ => pk_res) _ ?_ (HJ s)
          rintro _ plz sdz ⟨z, rfl, hz0, hz⟩ z1 z2 z3
          refine ⟨_, _, ⟨plz, sdz, ((⟨(l0.fKnots.set 0 ⟨k0.fAt, false⟩)⟩ : TLoop) :: rest), true, z, by omega, by omega, z3, ⟨by rw [List.length_cons]; omega, (fun l hl => by
            rcases List.mem_cons.1 hl with rfl | hl
            · show List.length (l0.fKnots.set 0 ⟨k0.fAt, false⟩) ≤ 62; simp; omega
            · have := hl2 l (by rw [hls]; simp [hl]); omega)⟩, by omega, by omega, rfl, rfl, rfl⟩, ?_⟩
          rw [show ((⟨(l0.fKnots.set 0 ⟨k0.fAt, false⟩)⟩ : TLoop) :: rest).length = ls.length from by rw [hlen]; rfl]
          refine Weak.trans (Weak.cov (e' := [(0, .pB 3 [] 0), (1, .pB 11 [] 0), (2, .d (.int .i64 0)), (10, .d (.int .i64 0)), (6, .pB 13 [] 0)]) (h' := [.gone, .box (.st [.nils]), .gone, .box (.d (srcD (code.map bD) plz sdz)), .gone, .gone, .arr 1 (.st [.hole g l0.fKnots.length cap] :: rest.map TLoop.D) true, .gone, .arr 3 ((l0.fKnots.set 0 ⟨k0.fAt, false⟩).map TKnot.D) true, .pin 8 g sz t, .box (.st [.own 6 0 ls.length]), .box (.st [.d (.str .empty), .d (.int .i64 0), .d (.int .i64 0), .st [.own 6 0 ls.length], .nils, .nils, .d (.str .empty)]), .keep [(2, .pB 1 [] 0), (5, .pB 3 [] 0), (6, .pB 10 [] 0)] s, .box (.st [.d (.int .i64 0), .nils, .nils, .d (.int .i64 0)])]) ?_ ?_ ?_) (Weak.trans (Weak.inn (b := 6) (c := 8) (j := 9) (k := 0) (p := [0]) (U := fun u => .st [u]) rfl rfl (by decide) rfl rfl rfl (fun _ => rfl) rfl rfl (by simp) hcap) (Weak.trans (Weak.cov (e' := [(0, .pB 3 [] 0), (1, .pB 11 [] 0), (2, .d (.int .i64 0)), (10, .d (.int .i64 0)), (6, .pB 13 [] 0)]) (h' := [.gone, .box (.st [.nils]), .gone, .box (.d (srcD (code.map bD) plz sdz)), .gone, .gone, .arr 1 (((⟨(l0.fKnots.set 0 ⟨k0.fAt, false⟩)⟩ : TLoop) :: rest).map TLoop.D) true, .gone, .gone, .gone, .box (.st [.own 6 0 ls.length]), .box (.st [.d (.str .empty), .d (.int .i64 0), .d (.int .i64 0), .st [.own 6 0 ls.length], .nils, .nils, .d (.str .empty)]), .keep [(2, .pB 1 [] 0), (5, .pB 3 [] 0), (6, .pB 10 [] 0)] s, .box (.st [.d (.int .i64 0), .nils, .nils, .d (.int .i64 0)])]) ?_ ?_ ?_) (Weak.cov ?_ ?_ ?_)))
          all_goals first | (focus ((repeat' (first | exact trivial | with_reducible rfl | with_reducible exact hset ⟨k0.fAt, false⟩ | (refine ⟨?_, ?_⟩) | exact hset ⟨k0.fAt, false⟩ | rfl)); done)) | rfl
        (repeat (refine stg_ ?_))
        refine br_ (fun hb1 => ?_) (fun hb1 => ?_)
        · exfalso; omega
        (repeat (refine stg_ ?_))
        refine br_ (fun hb2 => ?_) (fun hb2 => ?_)
        · (repeat (refine stg_ ?_))
          refine EoW.at rfl ?_
          (conv => whnf)
          refine ⟨⟨9, 8, 3, _, true, sz, t, rfl, rfl, hcap, ?_⟩⟩
          (conv => whnf)
          (repeat (refine stg_ ?_))
          (refine And.intro rfl ?_; (conv => whnf))
          (repeat (refine stg_ ?_))
          (refine CallW.inl' ttOk (by kernel_rfl) Try.func10 rfl (by kernel_rfl) (by kernel_rfl) (by rfl) [(2, .pB 1 [] 0), (5, .pB 3 [] 0), (6, .pB 10 [] 0)] (by (conv => whnf); (repeat' (first | exact trivial | (refine ⟨?_, ?_⟩) | rfl))) (fun s => ?_); (conv => whnf))
          (repeat (refine stg_ ?_))
          refine clsS_ c101 (by assumption) (by omega) (fun _ => pk_res) _ ?_ (HJ s)
          rintro _ plz sdz ⟨z, rfl, hz0, hz⟩ z1 z2 z3
          refine ⟨_, _, ⟨plz, sdz, ((⟨(l0.fKnots.set 0 ⟨⟨262145, k0.fAt.fY⟩, k0.fOn⟩)⟩ : TLoop) :: rest), true, z, by omega, by omega, z3, ⟨by rw [List.length_cons]; omega, (fun l hl => by
            rcases List.mem_cons.1 hl with rfl | hl
            · show List.length (l0.fKnots.set 0 ⟨⟨262145, k0.fAt.fY⟩, k0.fOn⟩) ≤ 62; simp; omega
            · have := hl2 l (by rw [hls]; simp [hl]); omega)⟩, by omega, by omega, rfl, rfl, rfl⟩, ?_⟩
          rw [show ((⟨(l0.fKnots.set 0 ⟨⟨262145, k0.fAt.fY⟩, k0.fOn⟩)⟩ : TLoop) :: rest).length = ls.length from by rw [hlen]; rfl]
          refine Weak.trans (Weak.cov (e' := [(0, .pB 3 [] 0), (1, .pB 11 [] 0), (2, .d (.int .i64 0)), (10, .d (.int .i64 0)), (6, .pB 13 [] 0)]) (h' := [.gone, .box (.st [.nils]), .gone, .box (.d (srcD (code.map bD) plz sdz)), .gone, .gone, .arr 1 (.st [.hole g l0.fKnots.length cap] :: rest.map TLoop.D) true, .gone, .arr 3 ((l0.fKnots.set 0 ⟨⟨262145, k0.fAt.fY⟩, k0.fOn⟩).map TKnot.D) true, .pin 8 g sz t, .box (.st [.own 6 0 ls.length]), .box (.st [.d (.str .empty), .d (.int .i64 0), .d (.int .i64 0), .st [.own 6 0 ls.length], .nils, .nils, .d (.str .empty)]), .keep [(2, .pB 1 [] 0), (5, .pB 3 [] 0), (6, .pB 10 [] 0)] s, .box (.st [.d (.int .i64 0), .nils, .nils, .d (.int .i64 0)])]) ?_ ?_ ?_) (Weak.trans (Weak.inn (b := 6) (c := 8) (j := 9) (k := 0) (p := [0]) (U := fun u => .st [u]) rfl rfl (by decide) rfl rfl rfl (fun _ => rfl) rfl rfl (by simp) hcap) (Weak.trans (Weak.cov (e' := [(0, .pB 3 [] 0), (1, .pB 11 [] 0), (2, .d (.int .i64 0)), (10, .d (.int .i64 0)), (6, .pB 13 [] 0)]) (h' := [.gone, .box (.st [.nils]), .gone, .box (.d (srcD (code.map bD) plz sdz)), .gone, .gone, .arr 1 (((⟨(l0.fKnots.set 0 ⟨⟨262145, k0.fAt.fY⟩, k0.fOn⟩)⟩ : TLoop) :: rest).map TLoop.D) true, .gone, .gone, .gone, .box (.st [.own 6 0 ls.length]), .box (.st [.d (.str .empty), .d (.int .i64 0), .d (.int .i64 0), .st [.own 6 0 ls.length], .nils, .nils, .d (.str .empty)]), .keep [(2, .pB 1 [] 0), (5, .pB 3 [] 0), (6, .pB 10 [] 0)] s, .box (.st [.d (.int .i64 0), .nils, .nils, .d (.int .i64 0)])]) ?_ ?_ ?_) (Weak.cov ?_ ?_ ?_)))
          all_goals first | (focus ((repeat' (first | exact trivial | with_reducible rfl | with_reducible exact hset ⟨⟨262145, k0.fAt.fY⟩, k0.fOn⟩ | (refine ⟨?_, ?_⟩) | exact hset ⟨⟨262145, k0.fAt.fY⟩, k0.fOn⟩ | rfl)); done)) | rfl
        (repeat (refine stg_ ?_))
        refine br_ (fun hb3 => ?_) (fun hb3 => ?_)
        · exfalso; omega
        (repeat (refine stg_ ?_))
        refine br_ (fun hb4 => ?_) (fun hb4 => ?_)
        · (repeat (refine stg_ ?_))
          refine LoopW.go (α := Int × Int × List TKnot × Nat × Nat × Nat × TypeId) (fun p => [(0, .pB 3 [] 0), (2, .pB 5 [] 0), (3, .pB 7 [] 0)]) (fun p => [.gone, .box (.st [.nils]), .gone, .box (.d (srcD (code.map bD) p.1 p.2.1)), .keep [(2, .pB 1 [] 0), (5, .pB 3 [] 0)] s, .box (.st [.nils]), .arr 1 (.st [.hole p.2.2.2.1 p.2.2.1.length p.2.2.2.2.1] :: rest.map TLoop.D) true, .box (.st [.own 6 0 ls.length]), .arr 3 (p.2.2.1.map TKnot.D) true, .pin 8 p.2.2.2.1 p.2.2.2.2.2.1 p.2.2.2.2.2.2])
            (fun p => pl2 ≤ p.1 ∧ p.1 ≤ pl2 + 10 * p.2.2.1.length ∧ stOK p.1 p.2.1 ∧ 1 ≤ p.2.2.1.length ∧ p.2.2.1.length ≤ 60 ∧ (p.2.2.2.2.1 = 0 ∨ p.2.2.2.2.1 * 3 < p.2.2.2.2.2.1)) (fun p => 60 - p.2.2.1.length) (pl2, sd2, l0.fKnots, g, cap, sz, t) covT_ ⟨by dsimp only; omega, by dsimp only; omega, q3, by dsimp only; omega, by dsimp only; omega, hcap⟩ ?_
          rintro ⟨pl3, sd3, kq, g, cap, sz, t⟩ ⟨w1, w2, w3, w4, w5, hcap⟩
          dsimp only at w1 w2 w3 w4 w5 hcap ⊢
          have hLq : (kq.map TKnot.D).length = kq.length := List.length_map _
          (conv => whnf)
          (repeat (refine stg_ ?_))
          refine EoW.at rfl ?_
          (conv => whnf)
          refine HoW.mk ⟨9, 8, 3, _, true, sz, t, rfl, rfl, hcap, ?_⟩
          (conv => whnf)
          (repeat (refine stg_ ?_))
          refine br_ (fun hb6 => ?_) (fun hb6 => ?_)
          · (repeat ((fail_if_success (with_reducible apply RegD.id)); (refine stg_ ?_)))
            have hap : ∀ kn : TKnot, Blk.arr 3 ((kq.map TKnot.D).take kq.length ++ [kn.D]) true = Blk.arr 3 ((kq ++ [kn]).map TKnot.D) true := fun kn => by
              rw [List.take_of_length_le (by omega), List.map_append]; rfl
            refine RegD.cutS (fun e h => ∃ pl' sd', ∃ kn : TKnot, ∃ g' cap' sz' t', pl3 ≤ pl' ∧ pl' ≤ pl3 + 10 ∧ stOK pl' sd' ∧ (cap' = 0 ∨ cap' * 3 < sz') ∧ e = [(0, .pB 3 [] 0), (2, .pB 5 [] 0), (3, .pB 7 [] 0)] ∧ h = [.gone, .box (.st [.nils]), .gone, .box (.d (srcD (code.map bD) pl' sd')), .keep [(2, .pB 1 [] 0), (5, .pB 3 [] 0)] s, .box (.st [.nils]), .arr 1 (.st [.hole g' (kq ++ [kn]).length cap'] :: rest.map TLoop.D) true, .box (.st [.own 6 0 ls.length]), .arr 3 ((kq ++ [kn]).map TKnot.D) true, .pin 8 g' sz' t']) trB18 (by kernel_rfl) ?_ ?_
            · (conv => whnf)
              iterate 30 (all_goals (first
                | (with_reducible exact trivial)
                | ((with_reducible refine And.intro ?_ ?_) <;> (conv => whnf))
                | ((with_reducible apply CallW.id); ((refine clz_ c300 (by assumption) (by omega) ?_; rintro v bs pl4 sd4 ⟨p, rfl, rfl⟩ z1 z2 z3 <;> refine ⟨rfl, ?_⟩ <;> (conv => whnf))))
                | ((with_reducible apply EoW.id); (refine EoW.at rfl ?_); (conv => whnf))
                | ((with_reducible apply HoW.id); (refine HoW.mk ⟨9, 8, 3, _, true, sz, t, rfl, rfl, hcap, ?_⟩); (conv => whnf))
                | ((with_reducible apply HlW.id); (refine HlW.at (fun g2 cap2 sz2 ty2 hcap2 => ?_)); (conv => whnf))
                | ((with_reducible apply ApW.id); (refine ApW.at (by simp only [List.length_cons, List.length_nil]; show _ ≤ 9223372036854775807; omega) (by simp only [List.length_cons, List.length_nil]; show _ * 24 ≤ 140737488355328; omega) ?_; (conv => whnf)))
                | (refine stg_ ?_)
                | skip))
              all_goals (refine ⟨_, _, ⟨pl4, sd4, ⟨p, false⟩, g2, cap2, sz2, ty2, by omega, by omega, z3, hcap2, rfl, rfl⟩, ?_⟩)
              all_goals rw [show (kq ++ [(⟨p, false⟩ : TKnot)]).length = kq.length + 1 from by simp]
              all_goals (refine Weak.trans (Weak.cov (e' := [(0, .pB 3 [] 0), (2, .pB 5 [] 0), (3, .pB 7 [] 0)]) (h' := [.gone, .box (.st [.nils]), .gone, .box (.d (srcD (code.map bD) pl4 sd4)), .keep [(2, .pB 1 [] 0), (5, .pB 3 [] 0)] s, .box (.st [.nils]), .arr 1 (.st [.hole g2 (kq.length + 1) cap2] :: rest.map TLoop.D) true, .box (.st [.own 6 0 ls.length]), .arr 3 ((kq ++ [(⟨p, false⟩ : TKnot)]).map TKnot.D) true, .gone, .gone, .pin 8 g2 sz2 ty2]) ?_ ?_ ?_) (Weak.trans (Weak.swap 9 11 ?_) (Weak.cov ?_ ?_ ?_)))
              all_goals first | (focus ((repeat' (first | exact trivial | with_reducible rfl | with_reducible exact hap ⟨p, false⟩ | (refine ⟨?_, ?_⟩) | exact hap ⟨p, false⟩ | rfl)); done)) | rfl
            · rintro e h ⟨pl4, sd4, kn, g2, cap2, sz2, ty2, z1, z2, z3, hcap2, rfl, rfl⟩
              (conv => whnf)
              refine NextW.go (pl4, sd4, kq ++ [kn], g2, cap2, sz2, ty2) covT_ ⟨by dsimp only; omega, by simp; omega, z3, by simp, by simp; omega, hcap2⟩ (by simp; omega)
          · (repeat (refine stg_ ?_))
            (refine cls_ o2 (by assumption) (by omega) ?_; rintro _ pl4 sd4 ⟨b, rfl⟩ z1 z2 z3; (conv => whnf))
            refine br_ (fun hb8 => ?_) (fun hb8 => ?_)
            · skip
              (repeat ((fail_if_success (with_reducible apply RegD.id)); (refine stg_ ?_)))
              refine RegD.cutS (fun e h => ∃ (kq' : List TKnot) (g' cap' sz' : Nat) (t' : TypeId), 1 ≤ kq'.length ∧ kq'.length ≤ 62 ∧ (cap' = 0 ∨ cap' * 3 < sz') ∧ e = [(0, .pB 3 [] 0), (2, .pB 5 [] 0), (3, .pB 7 [] 0)] ∧ h = [.gone, .box (.st [.nils]), .gone, .box (.d (srcD (code.map bD) pl4 sd4)), .keep [(2, .pB 1 [] 0), (5, .pB 3 [] 0)] s, .box (.st [.nils]), .arr 1 (.st [.hole g' kq'.length cap'] :: rest.map TLoop.D) true, .box (.st [.own 6 0 ls.length]), .arr 3 (kq'.map TKnot.D) true, .pin 8 g' sz' t']) trB20 (by kernel_rfl) ?_ ?_
              · have hap : Blk.arr 3 ((kq.map TKnot.D).take kq.length ++ [TKnot.D ⟨⟨0, 0⟩, false⟩]) true = Blk.arr 3 ((kq ++ [(⟨⟨0, 0⟩, false⟩ : TKnot)]).map TKnot.D) true := by
                  rw [List.take_of_length_le (by simp), List.map_append]; rfl
                (conv => whnf)
                iterate 30 (all_goals (first
                  | (with_reducible exact trivial)
                  | ((with_reducible refine And.intro ?_ ?_) <;> (conv => whnf))
                  | ((with_reducible apply EoW.id); (refine EoW.at rfl ?_); (conv => whnf))
                  | ((with_reducible apply HoW.id); (refine HoW.mk ⟨9, 8, 3, _, true, sz, t, rfl, rfl, hcap, ?_⟩); (conv => whnf))
                  | ((with_reducible apply HlW.id); (refine HlW.at (fun g2 cap2 sz2 ty2 hcap2 => ?_)); (conv => whnf))
                  | ((with_reducible apply ApW.id); (refine ApW.at (by simp only [List.length_cons, List.length_nil]; show _ ≤ 9223372036854775807; omega) (by simp only [List.length_cons, List.length_nil]; show _ * 24 ≤ 140737488355328; omega) ?_; (conv => whnf)))
                  | (refine stg_ ?_)
                  | skip))
                all_goals (refine ⟨_, _, ⟨(kq ++ [(⟨⟨0, 0⟩, false⟩ : TKnot)]), g2, cap2, sz2, ty2, by simp, by simp; omega, hcap2, rfl, rfl⟩, ?_⟩)
                all_goals rw [show (kq ++ [(⟨⟨0, 0⟩, false⟩ : TKnot)]).length = kq.length + 1 from by simp]
                all_goals (refine Weak.trans (Weak.cov (e' := [(0, .pB 3 [] 0), (2, .pB 5 [] 0), (3, .pB 7 [] 0)]) (h' := [.gone, .box (.st [.nils]), .gone, .box (.d (srcD (code.map bD) pl4 sd4)), .keep [(2, .pB 1 [] 0), (5, .pB 3 [] 0)] s, .box (.st [.nils]), .arr 1 (.st [.hole g2 (kq.length + 1) cap2] :: rest.map TLoop.D) true, .box (.st [.own 6 0 ls.length]), .arr 3 ((kq ++ [(⟨⟨0, 0⟩, false⟩ : TKnot)]).map TKnot.D) true, .gone, .gone, .pin 8 g2 sz2 ty2]) ?_ ?_ ?_) (Weak.trans (Weak.swap 9 11 ?_) (Weak.cov ?_ ?_ ?_)))
                all_goals first | (focus ((repeat' (first | exact trivial | with_reducible rfl | with_reducible exact hap | (refine ⟨?_, ?_⟩) | exact hap | rfl)); done)) | rfl
              rintro e h ⟨ku, g, cap, sz, t, hku1, hku2, hcap, rfl, rfl⟩
              (conv => whnf)
              (repeat (refine stg_ ?_))
              (refine And.intro rfl ?_; (conv => whnf))
              (repeat (refine stg_ ?_))
              (refine CallW.inl' ttOk (by kernel_rfl) Try.func10 rfl (by kernel_rfl) (by kernel_rfl) (by rfl) [(2, .pB 1 [] 0), (5, .pB 3 [] 0), (6, .pB 10 [] 0)] (by (conv => whnf); (repeat' (first | exact trivial | (refine ⟨?_, ?_⟩) | rfl))) (fun s => ?_); (conv => whnf))
              (repeat (refine stg_ ?_))
              refine clsS_ c101 (by assumption) (by omega) (fun _ => pk_res) _ ?_ (HJ s)
              rintro _ plz sdz ⟨z, rfl, hz0, hz⟩ z1 z2 z3
              refine ⟨_, _, ⟨plz, sdz, ((⟨ku⟩ : TLoop) :: rest), true, z, by omega, by omega, z3, ⟨by rw [List.length_cons]; omega, (fun l hl => by
                rcases List.mem_cons.1 hl with rfl | hl
                · show List.length ku ≤ 62; omega
                · have := hl2 l (by rw [hls]; simp [hl]); omega)⟩, by omega, by omega, rfl, rfl, rfl⟩, ?_⟩
              rw [show ((⟨ku⟩ : TLoop) :: rest).length = ls.length from by rw [hlen]; rfl]
              refine Weak.trans (Weak.cov (e' := [(0, .pB 3 [] 0), (1, .pB 11 [] 0), (2, .d (.int .i64 0)), (10, .d (.int .i64 0)), (6, .pB 13 [] 0)]) (h' := [.gone, .box (.st [.nils]), .gone, .box (.d (srcD (code.map bD) plz sdz)), .gone, .gone, .arr 1 (.st [.hole g ku.length cap] :: rest.map TLoop.D) true, .gone, .arr 3 (ku.map TKnot.D) true, .pin 8 g sz t, .box (.st [.own 6 0 ls.length]), .box (.st [.d (.str .empty), .d (.int .i64 0), .d (.int .i64 0), .st [.own 6 0 ls.length], .nils, .nils, .d (.str .empty)]), .keep [(2, .pB 1 [] 0), (5, .pB 3 [] 0), (6, .pB 10 [] 0)] s, .box (.st [.d (.int .i64 0), .nils, .nils, .d (.int .i64 0)])]) ?_ ?_ ?_) (Weak.trans (Weak.inn (b := 6) (c := 8) (j := 9) (k := 0) (p := [0]) (U := fun u => .st [u]) rfl rfl (by decide) rfl rfl rfl (fun _ => rfl) rfl rfl (by simp) hcap) (Weak.trans (Weak.cov (e' := [(0, .pB 3 [] 0), (1, .pB 11 [] 0), (2, .d (.int .i64 0)), (10, .d (.int .i64 0)), (6, .pB 13 [] 0)]) (h' := [.gone, .box (.st [.nils]), .gone, .box (.d (srcD (code.map bD) plz sdz)), .gone, .gone, .arr 1 (((⟨ku⟩ : TLoop) :: rest).map TLoop.D) true, .gone, .gone, .gone, .box (.st [.own 6 0 ls.length]), .box (.st [.d (.str .empty), .d (.int .i64 0), .d (.int .i64 0), .st [.own 6 0 ls.length], .nils, .nils, .d (.str .empty)]), .keep [(2, .pB 1 [] 0), (5, .pB 3 [] 0), (6, .pB 10 [] 0)] s, .box (.st [.d (.int .i64 0), .nils, .nils, .d (.int .i64 0)])]) ?_ ?_ ?_) (Weak.cov ?_ ?_ ?_)))
              all_goals first | (focus ((repeat' (first | exact trivial | with_reducible rfl | (refine ⟨?_, ?_⟩) | rfl)); done)) | rfl
            · (repeat (refine stg_ ?_))
              (refine And.intro rfl ?_; (conv => whnf))
              (repeat (refine stg_ ?_))
              (refine CallW.inl' ttOk (by kernel_rfl) Try.func10 rfl (by kernel_rfl) (by kernel_rfl) (by rfl) [(2, .pB 1 [] 0), (5, .pB 3 [] 0), (6, .pB 10 [] 0)] (by (conv => whnf); (repeat' (first | exact trivial | (refine ⟨?_, ?_⟩) | rfl))) (fun s => ?_); (conv => whnf))
              (repeat (refine stg_ ?_))
              refine clsS_ c101 (by assumption) (by omega) (fun _ => pk_res) _ ?_ (HJ s)
              rintro _ plz sdz ⟨z, rfl, hz0, hz⟩ z1 z2 z3
              refine ⟨_, _, ⟨plz, sdz, ((⟨kq⟩ : TLoop) :: rest), true, z, by omega, by omega, z3, ⟨by rw [List.length_cons]; omega, (fun l hl => by
                rcases List.mem_cons.1 hl with rfl | hl
                · show List.length kq ≤ 62; omega
                · have := hl2 l (by rw [hls]; simp [hl]); omega)⟩, by omega, by omega, rfl, rfl, rfl⟩, ?_⟩
              rw [show ((⟨kq⟩ : TLoop) :: rest).length = ls.length from by rw [hlen]; rfl]
              refine Weak.trans (Weak.cov (e' := [(0, .pB 3 [] 0), (1, .pB 11 [] 0), (2, .d (.int .i64 0)), (10, .d (.int .i64 0)), (6, .pB 13 [] 0)]) (h' := [.gone, .box (.st [.nils]), .gone, .box (.d (srcD (code.map bD) plz sdz)), .gone, .gone, .arr 1 (.st [.hole g kq.length cap] :: rest.map TLoop.D) true, .gone, .arr 3 (kq.map TKnot.D) true, .pin 8 g sz t, .box (.st [.own 6 0 ls.length]), .box (.st [.d (.str .empty), .d (.int .i64 0), .d (.int .i64 0), .st [.own 6 0 ls.length], .nils, .nils, .d (.str .empty)]), .keep [(2, .pB 1 [] 0), (5, .pB 3 [] 0), (6, .pB 10 [] 0)] s, .box (.st [.d (.int .i64 0), .nils, .nils, .d (.int .i64 0)])]) ?_ ?_ ?_) (Weak.trans (Weak.inn (b := 6) (c := 8) (j := 9) (k := 0) (p := [0]) (U := fun u => .st [u]) rfl rfl (by decide) rfl rfl rfl (fun _ => rfl) rfl rfl (by simp) hcap) (Weak.trans (Weak.cov (e' := [(0, .pB 3 [] 0), (1, .pB 11 [] 0), (2, .d (.int .i64 0)), (10, .d (.int .i64 0)), (6, .pB 13 [] 0)]) (h' := [.gone, .box (.st [.nils]), .gone, .box (.d (srcD (code.map bD) plz sdz)), .gone, .gone, .arr 1 (((⟨kq⟩ : TLoop) :: rest).map TLoop.D) true, .gone, .gone, .gone, .box (.st [.own 6 0 ls.length]), .box (.st [.d (.str .empty), .d (.int .i64 0), .d (.int .i64 0), .st [.own 6 0 ls.length], .nils, .nils, .d (.str .empty)]), .keep [(2, .pB 1 [] 0), (5, .pB 3 [] 0), (6, .pB 10 [] 0)] s, .box (.st [.d (.int .i64 0), .nils, .nils, .d (.int .i64 0)])]) ?_ ?_ ?_) (Weak.cov ?_ ?_ ?_)))
              all_goals first | (focus ((repeat' (first | exact trivial | with_reducible rfl | (refine ⟨?_, ?_⟩) | rfl)); done)) | rfl
        (repeat (refine stg_ ?_))
        refine br_ (fun hb5 => ?_) (fun hb5 => ?_)
        · skip
          (repeat ((fail_if_success (with_reducible apply RegD.id)); (refine stg_ ?_)))
          refine RegD.cutS (fun e h => ∃ (kq' : List TKnot) (g' cap' sz' : Nat) (t' : TypeId), 1 ≤ kq'.length ∧ kq'.length ≤ 62 ∧ (cap' = 0 ∨ cap' * 3 < sz') ∧ e = [(0, .pB 3 [] 0), (2, .pB 5 [] 0), (3, .pB 7 [] 0)] ∧ h = [.gone, .box (.st [.nils]), .gone, .box (.d (srcD (code.map bD) pl2 sd2)), .keep [(2, .pB 1 [] 0), (5, .pB 3 [] 0)] s, .box (.st [.nils]), .arr 1 (.st [.hole g' kq'.length cap'] :: rest.map TLoop.D) true, .box (.st [.own 6 0 ls.length]), .arr 3 (kq'.map TKnot.D) true, .pin 8 g' sz' t']) trB22 (by kernel_rfl) ?_ ?_
          · have hap : Blk.arr 3 ((l0.fKnots.map TKnot.D).take l0.fKnots.length ++ [TKnot.D ⟨⟨262144, -262144⟩, false⟩, TKnot.D ⟨⟨-262144, 0⟩, true⟩]) true = Blk.arr 3 ((l0.fKnots ++ [(⟨⟨262144, -262144⟩, false⟩ : TKnot), (⟨⟨-262144, 0⟩, true⟩ : TKnot)]).map TKnot.D) true := by
              rw [List.take_of_length_le (by simp), List.map_append]; rfl
            (conv => whnf)
            iterate 30 (all_goals (first
              | (with_reducible exact trivial)
              | ((with_reducible refine And.intro ?_ ?_) <;> (conv => whnf))
              | ((with_reducible apply EoW.id); (refine EoW.at rfl ?_); (conv => whnf))
              | ((with_reducible apply HoW.id); (refine HoW.mk ⟨9, 8, 3, _, true, sz, t, rfl, rfl, hcap, ?_⟩); (conv => whnf))
              | ((with_reducible apply HlW.id); (refine HlW.at (fun g2 cap2 sz2 ty2 hcap2 => ?_)); (conv => whnf))
              | ((with_reducible apply ApW.id); (refine ApW.at (by simp only [List.length_cons, List.length_nil]; show _ ≤ 9223372036854775807; omega) (by simp only [List.length_cons, List.length_nil]; show _ * 24 ≤ 140737488355328; omega) ?_; (conv => whnf)))
              | (refine stg_ ?_)
              | skip))
            all_goals (refine ⟨_, _, ⟨(l0.fKnots ++ [(⟨⟨262144, -262144⟩, false⟩ : TKnot), (⟨⟨-262144, 0⟩, true⟩ : TKnot)]), g2, cap2, sz2, ty2, by simp, by simp; omega, hcap2, rfl, rfl⟩, ?_⟩)
            all_goals rw [show (l0.fKnots ++ [(⟨⟨262144, -262144⟩, false⟩ : TKnot), (⟨⟨-262144, 0⟩, true⟩ : TKnot)]).length = l0.fKnots.length + 2 from by simp]
            all_goals (refine Weak.trans (Weak.cov (e' := [(0, .pB 3 [] 0), (2, .pB 5 [] 0), (3, .pB 7 [] 0)]) (h' := [.gone, .box (.st [.nils]), .gone, .box (.d (srcD (code.map bD) pl2 sd2)), .keep [(2, .pB 1 [] 0), (5, .pB 3 [] 0)] s, .box (.st [.nils]), .arr 1 (.st [.hole g2 (l0.fKnots.length + 2) cap2] :: rest.map TLoop.D) true, .box (.st [.own 6 0 ls.length]), .arr 3 ((l0.fKnots ++ [(⟨⟨262144, -262144⟩, false⟩ : TKnot), (⟨⟨-262144, 0⟩, true⟩ : TKnot)]).map TKnot.D) true, .gone, .gone, .pin 8 g2 sz2 ty2]) ?_ ?_ ?_) (Weak.trans (Weak.swap 9 11 ?_) (Weak.cov ?_ ?_ ?_)))
            all_goals first | (focus ((repeat' (first | exact trivial | with_reducible rfl | with_reducible exact hap | (refine ⟨?_, ?_⟩) | exact hap | rfl)); done)) | rfl
          rintro e h ⟨ku, g, cap, sz, t, hku1, hku2, hcap, rfl, rfl⟩
          (conv => whnf)
          (repeat (refine stg_ ?_))
          (refine And.intro rfl ?_; (conv => whnf))
          (repeat (refine stg_ ?_))
          (refine CallW.inl' ttOk (by kernel_rfl) Try.func10 rfl (by kernel_rfl) (by kernel_rfl) (by rfl) [(2, .pB 1 [] 0), (5, .pB 3 [] 0), (6, .pB 10 [] 0)] (by (conv => whnf); (repeat' (first | exact trivial | (refine ⟨?_, ?_⟩) | rfl))) (fun s => ?_); (conv => whnf))
          (repeat (refine stg_ ?_))
          refine clsS_ c101 (by assumption) (by omega) (fun _ => pk_res) _ ?_ (HJ s)
          rintro _ plz sdz ⟨z, rfl, hz0, hz⟩ z1 z2 z3
          refine ⟨_, _, ⟨plz, sdz, ((⟨ku⟩ : TLoop) :: rest), true, z, by omega, by omega, z3, ⟨by rw [List.length_cons]; omega, (fun l hl => by
            rcases List.mem_cons.1 hl with rfl | hl
            · show List.length ku ≤ 62; omega
            · have := hl2 l (by rw [hls]; simp [hl]); omega)⟩, by omega, by omega, rfl, rfl, rfl⟩, ?_⟩
          rw [show ((⟨ku⟩ : TLoop) :: rest).length = ls.length from by rw [hlen]; rfl]
          refine Weak.trans (Weak.cov (e' := [(0, .pB 3 [] 0), (1, .pB 11 [] 0), (2, .d (.int .i64 0)), (10, .d (.int .i64 0)), (6, .pB 13 [] 0)]) (h' := [.gone, .box (.st [.nils]), .gone, .box (.d (srcD (code.map bD) plz sdz)), .gone, .gone, .arr 1 (.st [.hole g ku.length cap] :: rest.map TLoop.D) true, .gone, .arr 3 (ku.map TKnot.D) true, .pin 8 g sz t, .box (.st [.own 6 0 ls.length]), .box (.st [.d (.str .empty), .d (.int .i64 0), .d (.int .i64 0), .st [.own 6 0 ls.length], .nils, .nils, .d (.str .empty)]), .keep [(2, .pB 1 [] 0), (5, .pB 3 [] 0), (6, .pB 10 [] 0)] s, .box (.st [.d (.int .i64 0), .nils, .nils, .d (.int .i64 0)])]) ?_ ?_ ?_) (Weak.trans (Weak.inn (b := 6) (c := 8) (j := 9) (k := 0) (p := [0]) (U := fun u => .st [u]) rfl rfl (by decide) rfl rfl rfl (fun _ => rfl) rfl rfl (by simp) hcap) (Weak.trans (Weak.cov (e' := [(0, .pB 3 [] 0), (1, .pB 11 [] 0), (2, .d (.int .i64 0)), (10, .d (.int .i64 0)), (6, .pB 13 [] 0)]) (h' := [.gone, .box (.st [.nils]), .gone, .box (.d (srcD (code.map bD) plz sdz)), .gone, .gone, .arr 1 (((⟨ku⟩ : TLoop) :: rest).map TLoop.D) true, .gone, .gone, .gone, .box (.st [.own 6 0 ls.length]), .box (.st [.d (.str .empty), .d (.int .i64 0), .d (.int .i64 0), .st [.own 6 0 ls.length], .nils, .nils, .d (.str .empty)]), .keep [(2, .pB 1 [] 0), (5, .pB 3 [] 0), (6, .pB 10 [] 0)] s, .box (.st [.d (.int .i64 0), .nils, .nils, .d (.int .i64 0)])]) ?_ ?_ ?_) (Weak.cov ?_ ?_ ?_)))
          all_goals first | (focus ((repeat' (first | exact trivial | with_reducible rfl | (refine ⟨?_, ?_⟩) | rfl)); done)) | rfl
        · exfalso; omega
  · rintro s v e h ⟨pl2, sd2, ls, dp, x, b1, b2, hst, ⟨hl3, hl4⟩, hx0, hx1, rfl, rfl, rfl⟩
    have hN := cnK_B hl4
    have cN := l30CountB_v ⟨ls⟩ (show cnK ls ≤ 1000000 by omega) (show ls.length ≤ 1000000 by omega)
    have hL : (ls.map TLoop.D).length = ls.length := List.length_map _
    have o3 := one_e code 3
    have c60 := l03Draw_z code 60 (by omega) (by omega)
    have c12 := pick_e code 12
    (conv => whnf)
    (repeat (refine stg_ ?_))
    (refine cla_ (cN) ?_)
    (repeat (refine stg_ ?_))
    refine LoopW.go (α := Int × Int × Nat × List Int × List TPt) (fun p => [(0, .pB 3 [] 0), (6, .pB 13 [] 0), (7, .pB 14 [] 0), (8, .d (.int .i64 ((cnK ls : Nat) : Int))), (9, .d (.int .i64 ((p.2.2.1 : Nat) : Int)))]) (fun p => [.gone, .box (.st [.nils]), .gone, .box (.d (srcD (code.map bD) p.1 p.2.1)), .gone, .gone, .arr 1 (ls.map TLoop.D) dp, .gone, .gone, .gone, .box (.st [.own 6 0 ls.length]), .gone, .keep [(2, .pB 1 [] 0), (5, .pB 3 [] 0), (6, .pB 10 [] 0)] s, .box (.st [.d (.int .i64 0), .nils, .nils, .d (.int .i64 0)]), .box (.st [.d (.int .i64 0), .own 15 0 p.2.2.2.1.length, .own 16 0 p.2.2.2.2.length, .d (.int .i64 (x - 50))]), .arr 1 (p.2.2.2.1.map (D.int .i64)) true, .arr 2 (p.2.2.2.2.map TPt.D) true])
      (fun p => pl2 ≤ p.1 ∧ p.1 ≤ pl2 + 14 * p.2.2.1 ∧ stOK p.1 p.2.1 ∧ p.2.2.1 ≤ cnK ls ∧ p.2.2.2.1.length ≤ p.2.2.1 ∧ p.2.2.2.2.length ≤ p.2.2.1) (fun p => cnK ls - p.2.2.1) (pl2, sd2, 0, [], [])
      (Weak.trans (Weak.cov (e' := [(0, .pB 3 [] 0), (6, .pB 13 [] 0), (7, .pB 14 [] 0), (8, .d (.int .i64 ((cnK ls : Nat) : Int))), (9, .d (.int .i64 ((0 : Nat) : Int)))]) (h' := [.gone, .box (.st [.nils]), .gone, .box (.d (srcD (code.map bD) pl2 sd2)), .gone, .gone, .arr 1 (ls.map TLoop.D) dp, .gone, .gone, .gone, .box (.st [.own 6 0 ls.length]), .gone, .keep [(2, .pB 1 [] 0), (5, .pB 3 [] 0), (6, .pB 10 [] 0)] s, .box (.st [.d (.int .i64 0), .nils, .nils, .d (.int .i64 0)]), .box (.st [.d (.int .i64 0), .nils, .nils, .d (.int .i64 (x - 50))])]) ?_ ?_ ?_) (Weak.trans (Weak.adoptM 14 [.d (.int .i64 0)] [.nils, .d (.int .i64 (x - 50))] rfl rfl 1 true) (Weak.trans (Weak.adoptM 14 [.d (.int .i64 0), .own 15 0 0] [.d (.int .i64 (x - 50))] rfl rfl 2 true) (Weak.cov ?_ ?_ ?_)))) ⟨by dsimp only; omega, by dsimp only; omega, hst, by dsimp only; omega, by dsimp only [List.length_nil]; omega, by dsimp only [List.length_nil]; omega⟩ ?_
    · (repeat' (first | exact trivial | with_reducible rfl | (refine ⟨?_, ?_⟩) | rfl))
    · (repeat' (first | exact trivial | with_reducible rfl | (refine ⟨?_, ?_⟩) | rfl))
    · rfl
    · (repeat' (first | exact trivial | with_reducible rfl | (refine ⟨?_, ?_⟩) | rfl))
    · (repeat' (first | exact trivial | with_reducible rfl | (refine ⟨?_, ?_⟩) | rfl))
    · rfl
    rintro ⟨pl3, sd3, j, ns, ms⟩ ⟨w1, w2, w3, w4, w5, w6⟩
    dsimp only at w1 w2 w3 w4 w5 w6 ⊢
    have hLn : (ns.map (D.int .i64)).length = ns.length := List.length_map _
    have hLm : (ms.map TPt.D).length = ms.length := List.length_map _
    have hapn : ∀ z : Int, Blk.arr 1 ((ns.map (D.int .i64)).take ns.length ++ [D.int .i64 z]) true = Blk.arr 1 ((ns ++ [z]).map (D.int .i64)) true := fun z => by
      rw [List.take_of_length_le (by omega), List.map_append]; rfl
    have hapm : ∀ p : TPt, Blk.arr 2 ((ms.map TPt.D).take ms.length ++ [p.D]) true = Blk.arr 2 ((ms ++ [p]).map TPt.D) true := fun p => by
      rw [List.take_of_length_le (by omega), List.map_append]; rfl
    (conv => whnf)
    (repeat (refine stg_ ?_))
    (refine br_ (fun hk => ?_) (fun hk => ?_))
    · (repeat (refine stg_ ?_))
      (refine cls_ o3 (by assumption) (by omega) ?_; rintro _ pl4 sd4 ⟨b, rfl⟩ z1 z2 z3; (conv => whnf))
      refine br_ (fun hb => ?_) (fun hb => ?_)
      · (repeat (first | ((with_reducible apply ApW.id); (refine ApW.at (by simp only [List.length_cons, List.length_nil]; show _ ≤ 9223372036854775807; omega) (by simp only [List.length_cons, List.length_nil]; show _ * 8 ≤ 140737488355328; omega) ?_; (conv => whnf))) | ((fail_if_success (with_reducible apply RegD.id)); (fail_if_success (with_reducible apply ApW.id)); (refine stg_ ?_))))
        refine RegD.cutS (fun e h => ∃ pl' sd', ∃ p : TPt, pl4 ≤ pl' ∧ pl' ≤ pl4 + 10 ∧ stOK pl' sd' ∧ e = [(0, .pB 3 [] 0), (6, .pB 13 [] 0), (7, .pB 14 [] 0), (8, .d (.int .i64 ((cnK ls : Nat) : Int))), (9, .d (.int .i64 ((j : Nat) : Int)))] ∧ h = [.gone, .box (.st [.nils]), .gone, .box (.d (srcD (code.map bD) pl' sd')), .gone, .gone, .arr 1 (ls.map TLoop.D) dp, .gone, .gone, .gone, .box (.st [.own 6 0 ls.length]), .gone, .keep [(2, .pB 1 [] 0), (5, .pB 3 [] 0), (6, .pB 10 [] 0)] s, .box (.st [.d (.int .i64 0), .nils, .nils, .d (.int .i64 0)]), .box (.st [.d (.int .i64 0), .own 15 0 (ns ++ [(j : Int)]).length, .own 16 0 (ms ++ [p]).length, .d (.int .i64 (x - 50))]), .arr 1 ((ns ++ [(j : Int)]).map (D.int .i64)) true, .arr 2 ((ms ++ [p]).map TPt.D) true]) trDD (by kernel_rfl) ?_ ?_
        · (conv => whnf)
          (repeat ((fail_if_success (with_reducible apply RegD.id)); (refine stg_ ?_)))
          refine And.intro ?_ ?_ <;> (conv => whnf)
          all_goals (repeat ((fail_if_success (with_reducible apply RegD.id)); (refine stg_ ?_)))
          all_goals ((refine clz_ c60 (by assumption) (by omega) ?_; rintro v bs pl5 sd5 ⟨p, rfl, rfl⟩ y1 y2 y3 <;> refine ⟨rfl, ?_⟩ <;> (conv => whnf)))
          all_goals (repeat (first | ((with_reducible apply ApW.id); (refine ApW.at (by simp only [List.length_cons, List.length_nil]; show _ ≤ 9223372036854775807; omega) (by simp only [List.length_cons, List.length_nil]; show _ * 16 ≤ 140737488355328; omega) ?_; (conv => whnf))) | ((fail_if_success (with_reducible apply RegD.id)); (fail_if_success (with_reducible apply ApW.id)); (refine stg_ ?_))))
          all_goals (refine ⟨_, _, ⟨pl5, sd5, p, by omega, by omega, y3, rfl, rfl⟩, ?_⟩)
          all_goals rw [show (ns ++ [(j : Int)]).length = ns.length + 1 from by simp, show (ms ++ [p]).length = ms.length + 1 from by simp]
          all_goals (refine Weak.cov ?_ ?_ ?_)
          all_goals first | (focus ((repeat' (first | exact trivial | with_reducible rfl | with_reducible exact hapn _ | with_reducible exact hapm _ | (refine ⟨?_, ?_⟩) | exact hapn _ | exact hapm _ | rfl)); done)) | rfl
        · rintro e h ⟨pl5, sd5, p, y1, y2, y3, rfl, rfl⟩
          (conv => whnf)
          (repeat (refine stg_ ?_))
          refine NextW.go (pl5, sd5, j + 1, ns ++ [(j : Int)], ms ++ [p]) covT_ ⟨by dsimp only; omega, by dsimp only; omega, y3, by dsimp only; omega, by simp; omega, by simp; omega⟩ (by dsimp only; omega)
      · (repeat (refine stg_ ?_))
        refine NextW.go (pl4, sd4, j + 1, ns, ms) covT_ ⟨by dsimp only; omega, by dsimp only; omega, z3, by dsimp only; omega, by dsimp only; omega, by dsimp only; omega⟩ (by dsimp only; omega)
    · (repeat (refine stg_ ?_))
      (refine And.intro rfl ?_; (conv => whnf))
      (repeat (refine stg_ ?_))
      refine clsS_ c12 (by assumption) (by omega) (fun _ => pk_res) (fun v e h => ∃ pl sd y, pl3 ≤ pl ∧ pl ≤ pl3 + 2 ∧ stOK pl sd ∧ v = .d (.int .i64 y) ∧ e = [(2, .pB 1 [] 0), (5, .pB 3 [] 0), (6, .pB 10 [] 0), (8, .pB 17 [] 0)] ∧ h = [.gone, .box (.st [.nils]), .gone, .box (.d (srcD (code.map bD) pl sd)), .gone, .gone, .arr 1 (ls.map TLoop.D) dp, .gone, .gone, .gone, .box (.st [.own 6 0 ls.length]), .gone, .gone, .gone, .gone, .arr 1 (ns.map (D.int .i64)) true, .arr 2 (ms.map TPt.D) true, .box (.st [.d (.int .i64 0), .own 15 0 ns.length, .own 16 0 ms.length, .d (.int .i64 (x - 50))])]) ?_ ?_
      · rintro _ pl4 sd4 ⟨y, rfl, hy0, hy⟩ z1 z2 z3
        refine ⟨_, _, ⟨pl4, sd4, y, by omega, by omega, z3, rfl, rfl, rfl⟩, ?_⟩
        (refine Weak.cov ?_ ?_ ?_; (focus (repeat' (first | exact trivial | with_reducible rfl | (refine ⟨?_, ?_⟩) | rfl))); (focus (repeat' (first | exact trivial | with_reducible rfl | (refine ⟨?_, ?_⟩) | rfl))); (focus rfl))
      rintro v e h ⟨pl4, sd4, y, z1, z2, z3, rfl, rfl, rfl⟩
      (conv => whnf)
      (repeat (refine stg_ ?_))
      have hapz := hapm ⟨0, 0⟩
      have hsetn : Blk.arr 1 ((ns.map (D.int .i64)).set (Int.toNat 0 + 0) (D.int .i64 (-1))) true = Blk.arr 1 ((ns.set 0 (-1)).map (D.int .i64)) true := by rw [List.map_set]; rfl
      refine br_ (fun hb0 => ?_) (fun hb0 => ?_)
      · (repeat ((fail_if_success (with_reducible apply RegD.id)); (refine stg_ ?_)))
        refine RegD.cutS (fun e h => ∃ pl' sd', ∃ z : Int, stOK pl' sd' ∧ e = [(2, .pB 1 [] 0), (5, .pB 3 [] 0), (6, .pB 10 [] 0), (8, .pB 17 [] 0)] ∧ h = [.gone, .box (.st [.nils]), .gone, .box (.d (srcD (code.map bD) pl' sd')), .gone, .gone, .arr 1 (ls.map TLoop.D) dp, .gone, .gone, .gone, .box (.st [.own 6 0 ls.length]), .gone, .gone, .gone, .gone, .arr 1 ((ns ++ [z]).map (D.int .i64)) true, .arr 2 (ms.map TPt.D) true, .box (.st [.d (.int .i64 0), .own 15 0 (ns ++ [z]).length, .own 16 0 ms.length, .d (.int .i64 (x - 50))])]) trD7 (by kernel_rfl) ?_ ?_
        · have hy3 : ∀ n3 : Int, 0 ≤ n3 → (n3 < 3 ∨ n3 = 0) → ∃ z : Int, [D.int .i64 0, D.int .i64 5000, D.int .i64 1099511627776][n3.toNat]? = some (.int .i64 z) := fun n3 h1 h2 => by
            obtain rfl | rfl | rfl : n3 = 0 ∨ n3 = 1 ∨ n3 = 2 := by omega
            · exact ⟨0, rfl⟩
            · exact ⟨5000, rfl⟩
            · exact ⟨1099511627776, rfl⟩
          have c3 := pick_e code 3
          (conv => whnf)
          iterate 40 (all_goals (first
            | (with_reducible exact trivial)
            | ((with_reducible refine And.intro ?_ ?_) <;> (conv => whnf))
            | ((with_reducible apply CallW.id); ((refine cls_ c3 (by assumption) (by omega) ?_; rintro _ pl5 sd5 ⟨n3, rfl, hn30, hn3⟩ y1 y2 y3; (conv => whnf))); (obtain ⟨z, hez⟩ := hy3 n3 hn30 hn3))
            | ((with_reducible apply CallW.id); (refine CallW.inl ttOk (by kernel_rfl) Try.func12 rfl (by kernel_rfl) (by kernel_rfl) (by rfl) (fun s => ?_); (conv => whnf)))
            | ((with_reducible apply ApW.id); (refine ApW.at (by simp only [List.length_cons, List.length_nil]; show _ ≤ 9223372036854775807; omega) (by simp only [List.length_cons, List.length_nil]; show _ * 8 ≤ 140737488355328; omega) ?_; (conv => whnf)))
            | (refine stg_ ?_)
            | skip))
          all_goals (refine ⟨_, _, ⟨pl5, sd5, z, y3, rfl, rfl⟩, ?_⟩)
          all_goals rw [show (ns ++ [z]).length = ns.length + 1 from by simp]
          all_goals (refine Weak.cov ?_ ?_ ?_)
          all_goals first | (focus ((repeat' (first | exact trivial | with_reducible rfl | with_reducible exact hapn _ | (refine ⟨?_, ?_⟩) | exact hapn _ | rfl)); done)) | rfl
        · rintro e h ⟨pl5, sd5, z, y3, rfl, rfl⟩
          have hLn2 : ((ns ++ [z]).map (D.int .i64)).length = ns.length + 1 := by simp
          have hz1 : (ns ++ [z]).length = ns.length + 1 := by simp
          (conv => whnf)
          (repeat (first | ((with_reducible apply ApW.id); (refine ApW.at (by simp only [List.length_cons, List.length_nil]; show _ ≤ 9223372036854775807; omega) (by simp only [List.length_cons, List.length_nil]; show _ * 16 ≤ 140737488355328; omega) ?_; (conv => whnf))) | ((fail_if_success (with_reducible apply RegD.id)); (fail_if_success (with_reducible apply ApW.id)); (refine stg_ ?_))))
          (repeat ((fail_if_success (with_reducible apply RegD.id)); (refine stg_ ?_)))
          refine RegD.cutS (fun e h => e = [(2, .pB 1 [] 0), (3, .own 15 0 (ns ++ [z]).length), (4, .own 16 0 (ms ++ [(⟨0, 0⟩ : TPt)]).length)] ∧ h = [.gone, .box (.st [.own 6 0 ls.length]), .gone, .gone, .gone, .gone, .arr 1 (ls.map TLoop.D) dp, .gone, .gone, .gone, .gone, .gone, .gone, .gone, .gone, .arr 1 ((ns ++ [z]).map (D.int .i64)) true, .arr 2 ((ms ++ [(⟨0, 0⟩ : TPt)]).map TPt.D) true]) trD14 (by kernel_rfl) ?_ ?_
          · (conv => whnf)
            iterate 16 (all_goals (first | (with_reducible exact trivial) | ((with_reducible refine And.intro ?_ ?_) <;> (conv => whnf)) | (refine stg_ ?_) | skip))
            all_goals (refine ⟨_, _, ⟨rfl, rfl⟩, ?_⟩)
            all_goals rw [show (ms ++ [(⟨0, 0⟩ : TPt)]).length = ms.length + 1 from by simp]
            all_goals (refine Weak.cov ?_ ?_ ?_)
            all_goals first | (focus ((repeat' (first | exact trivial | with_reducible rfl | with_reducible exact hapn _ | with_reducible exact hapm _ | (refine ⟨?_, ?_⟩) | exact hapz | exact hsetn | rfl)); done)) | rfl
          rintro e h ⟨rfl, rfl⟩
          (conv => whnf)
          refine ⟨_, _, ⟨⟨ls⟩, (ns ++ [z]), (ms ++ [(⟨0, 0⟩ : TPt)]), dp, by omega, by first | omega | (simp; omega), by first | omega | (simp; omega), rfl, rfl⟩, ?_⟩
          refine ⟨⟨[some 6, some 15, some 16], ⟨by decide, rfl, trivial, by decide, rfl, trivial, by decide, rfl, trivial, trivial⟩, by decide, ⟨_, rfl, rfl, ?_⟩⟩⟩
          (repeat' (first | ((conv => whnf); done) | ((conv => whnf); (first | (exact ⟨by decide, rfl⟩) | (exact ⟨rfl, rfl⟩) | (refine ⟨_, _, rfl, ?_, ?_⟩) | (refine ⟨_, rfl, ?_⟩) | rfl))))
      (repeat (refine stg_ ?_))
      refine br_ (fun hb1 => ?_) (fun hb1 => ?_)
      · (repeat (first | ((with_reducible apply ApW.id); (refine ApW.at (by simp only [List.length_cons, List.length_nil]; show _ ≤ 9223372036854775807; omega) (by simp only [List.length_cons, List.length_nil]; show _ * 16 ≤ 140737488355328; omega) ?_; (conv => whnf))) | ((fail_if_success (with_reducible apply RegD.id)); (fail_if_success (with_reducible apply ApW.id)); (refine stg_ ?_))))
        (repeat ((fail_if_success (with_reducible apply RegD.id)); (refine stg_ ?_)))
        refine RegD.cutS (fun e h => e = [(2, .pB 1 [] 0), (3, .own 15 0 ns.length), (4, .own 16 0 (ms ++ [(⟨0, 0⟩ : TPt)]).length)] ∧ h = [.gone, .box (.st [.own 6 0 ls.length]), .gone, .gone, .gone, .gone, .arr 1 (ls.map TLoop.D) dp, .gone, .gone, .gone, .gone, .gone, .gone, .gone, .gone, .arr 1 (ns.map (D.int .i64)) true, .arr 2 ((ms ++ [(⟨0, 0⟩ : TPt)]).map TPt.D) true]) trD14 (by kernel_rfl) ?_ ?_
        · (conv => whnf)
          iterate 16 (all_goals (first | (with_reducible exact trivial) | ((with_reducible refine And.intro ?_ ?_) <;> (conv => whnf)) | (refine stg_ ?_) | skip))
          all_goals (refine ⟨_, _, ⟨rfl, rfl⟩, ?_⟩)
          all_goals rw [show (ms ++ [(⟨0, 0⟩ : TPt)]).length = ms.length + 1 from by simp]
          all_goals (refine Weak.cov ?_ ?_ ?_)
          all_goals first | (focus ((repeat' (first | exact trivial | with_reducible rfl | with_reducible exact hapn _ | with_reducible exact hapm _ | (refine ⟨?_, ?_⟩) | exact hapz | exact hsetn | rfl)); done)) | rfl
        rintro e h ⟨rfl, rfl⟩
        (conv => whnf)
        refine ⟨_, _, ⟨⟨ls⟩, ns, (ms ++ [(⟨0, 0⟩ : TPt)]), dp, by omega, by first | omega | (simp; omega), by first | omega | (simp; omega), rfl, rfl⟩, ?_⟩
        refine ⟨⟨[some 6, some 15, some 16], ⟨by decide, rfl, trivial, by decide, rfl, trivial, by decide, rfl, trivial, trivial⟩, by decide, ⟨_, rfl, rfl, ?_⟩⟩⟩
        (repeat' (first | ((conv => whnf); done) | ((conv => whnf); (first | (exact ⟨by decide, rfl⟩) | (exact ⟨rfl, rfl⟩) | (refine ⟨_, _, rfl, ?_, ?_⟩) | (refine ⟨_, rfl, ?_⟩) | rfl))))
      (repeat (refine stg_ ?_))
      refine br_ (fun hb2 => ?_) (fun hb2 => ?_)
      · (repeat (refine stg_ ?_))
        refine br_ (fun hb3 => ?_) (fun hb3 => ?_)
        · obtain ⟨n0, hn0⟩ := at_lt' (xs := ns) (k := 0) (by omega)
          have hen : (ns.map (D.int .i64))[Int.toNat 0 + 0]? = some (D.int .i64 n0) := by show (ns.map (D.int .i64))[0]? = _; rw [List.getElem?_map, hn0]; rfl
          (repeat ((fail_if_success (with_reducible apply RegD.id)); (refine stg_ ?_)))
          refine RegD.cutS (fun e h => e = [(2, .pB 1 [] 0), (3, .own 15 0 (ns.set 0 (-1)).length), (4, .own 16 0 ms.length)] ∧ h = [.gone, .box (.st [.own 6 0 ls.length]), .gone, .gone, .gone, .gone, .arr 1 (ls.map TLoop.D) dp, .gone, .gone, .gone, .gone, .gone, .gone, .gone, .gone, .arr 1 ((ns.set 0 (-1)).map (D.int .i64)) true, .arr 2 (ms.map TPt.D) true]) trD14 (by kernel_rfl) ?_ ?_
          · (conv => whnf)
            iterate 16 (all_goals (first | (with_reducible exact trivial) | ((with_reducible refine And.intro ?_ ?_) <;> (conv => whnf)) | (refine stg_ ?_) | skip))
            all_goals (refine ⟨_, _, ⟨rfl, rfl⟩, ?_⟩)
            all_goals rw [show (ns.set 0 (-1)).length = ns.length from by simp]
            all_goals (refine Weak.cov ?_ ?_ ?_)
            all_goals first | (focus ((repeat' (first | exact trivial | with_reducible rfl | with_reducible exact hapn _ | with_reducible exact hapm _ | (refine ⟨?_, ?_⟩) | exact hapz | exact hsetn | rfl)); done)) | rfl
          rintro e h ⟨rfl, rfl⟩
          (conv => whnf)
          refine ⟨_, _, ⟨⟨ls⟩, (ns.set 0 (-1)), ms, dp, by omega, by first | omega | (simp; omega), by first | omega | (simp; omega), rfl, rfl⟩, ?_⟩
          refine ⟨⟨[some 6, some 15, some 16], ⟨by decide, rfl, trivial, by decide, rfl, trivial, by decide, rfl, trivial, trivial⟩, by decide, ⟨_, rfl, rfl, ?_⟩⟩⟩
          (repeat' (first | ((conv => whnf); done) | ((conv => whnf); (first | (exact ⟨by decide, rfl⟩) | (exact ⟨rfl, rfl⟩) | (refine ⟨_, _, rfl, ?_, ?_⟩) | (refine ⟨_, rfl, ?_⟩) | rfl))))
        · skip
          (repeat ((fail_if_success (with_reducible apply RegD.id)); (refine stg_ ?_)))
          refine RegD.cutS (fun e h => e = [(2, .pB 1 [] 0), (3, .own 15 0 ns.length), (4, .own 16 0 ms.length)] ∧ h = [.gone, .box (.st [.own 6 0 ls.length]), .gone, .gone, .gone, .gone, .arr 1 (ls.map TLoop.D) dp, .gone, .gone, .gone, .gone, .gone, .gone, .gone, .gone, .arr 1 (ns.map (D.int .i64)) true, .arr 2 (ms.map TPt.D) true]) trD14 (by kernel_rfl) ?_ ?_
          · (conv => whnf)
            iterate 16 (all_goals (first | (with_reducible exact trivial) | ((with_reducible refine And.intro ?_ ?_) <;> (conv => whnf)) | (refine stg_ ?_) | skip))
            all_goals (refine ⟨_, _, ⟨rfl, rfl⟩, ?_⟩)
            all_goals (refine Weak.cov ?_ ?_ ?_)
            all_goals first | (focus ((repeat' (first | exact trivial | with_reducible rfl | with_reducible exact hapn _ | with_reducible exact hapm _ | (refine ⟨?_, ?_⟩) | exact hapz | exact hsetn | rfl)); done)) | rfl
          rintro e h ⟨rfl, rfl⟩
          (conv => whnf)
          refine ⟨_, _, ⟨⟨ls⟩, ns, ms, dp, by omega, by first | omega | (simp; omega), by first | omega | (simp; omega), rfl, rfl⟩, ?_⟩
          refine ⟨⟨[some 6, some 15, some 16], ⟨by decide, rfl, trivial, by decide, rfl, trivial, by decide, rfl, trivial, trivial⟩, by decide, ⟨_, rfl, rfl, ?_⟩⟩⟩
          (repeat' (first | ((conv => whnf); done) | ((conv => whnf); (first | (exact ⟨by decide, rfl⟩) | (exact ⟨rfl, rfl⟩) | (refine ⟨_, _, rfl, ?_, ?_⟩) | (refine ⟨_, rfl, ?_⟩) | rfl))))
      · skip
        (repeat ((fail_if_success (with_reducible apply RegD.id)); (refine stg_ ?_)))
        refine RegD.cutS (fun e h => e = [(2, .pB 1 [] 0), (3, .own 15 0 ns.length), (4, .own 16 0 ms.length)] ∧ h = [.gone, .box (.st [.own 6 0 ls.length]), .gone, .gone, .gone, .gone, .arr 1 (ls.map TLoop.D) dp, .gone, .gone, .gone, .gone, .gone, .gone, .gone, .gone, .arr 1 (ns.map (D.int .i64)) true, .arr 2 (ms.map TPt.D) true]) trD14 (by kernel_rfl) ?_ ?_
        · (conv => whnf)
          iterate 16 (all_goals (first | (with_reducible exact trivial) | ((with_reducible refine And.intro ?_ ?_) <;> (conv => whnf)) | (refine stg_ ?_) | skip))
          all_goals (refine ⟨_, _, ⟨rfl, rfl⟩, ?_⟩)
          all_goals (refine Weak.cov ?_ ?_ ?_)
          all_goals first | (focus ((repeat' (first | exact trivial | with_reducible rfl | with_reducible exact hapn _ | with_reducible exact hapm _ | (refine ⟨?_, ?_⟩) | exact hapz | exact hsetn | rfl)); done)) | rfl
        rintro e h ⟨rfl, rfl⟩
        (conv => whnf)
        refine ⟨_, _, ⟨⟨ls⟩, ns, ms, dp, by omega, by first | omega | (simp; omega), by first | omega | (simp; omega), rfl, rfl⟩, ?_⟩
        refine ⟨⟨[some 6, some 15, some 16], ⟨by decide, rfl, trivial, by decide, rfl, trivial, by decide, rfl, trivial, trivial⟩, by decide, ⟨_, rfl, rfl, ?_⟩⟩⟩
        (repeat' (first | ((conv => whnf); done) | ((conv => whnf); (first | (exact ⟨by decide, rfl⟩) | (exact ⟨rfl, rfl⟩) | (refine ⟨_, _, rfl, ?_, ?_⟩) | (refine ⟨_, rfl, ?_⟩) | rfl))))
theorem a2Long_v (xs ys : List UInt8) : PC Try.prog 4 [.d (.lst (xs.map bD)), .d (.lst (ys.map bD))] (.d (.bool (decide (3000 < xs.length) || decide (3000 < ys.length)))) [] := by
  refine pc_intro ttOk (by kernel_rfl) Try.func4 rfl (by kernel_rfl) (by kernel_rfl) (by kernel_rfl) (fun hw => ?_)
  have h1 : (xs.map bD).length = xs.length := List.length_map _
  have h2 : (ys.map bD).length = ys.length := List.length_map _
  (conv => whnf)
  (repeat' (first | (refine stg_ ?_) | fail | (refine br_ (fun hbr => ?_) (fun hbr => ?_))))
  all_goals ((refine RetOK.d rfl rfl ?_; conv => whnf); simp_all; try omega)
  all_goals (rw [decide_eq_false (p := 3000 < xs.length) (by omega), Bool.false_or, decide_eq_decide]; omega)
def a2N (code : List UInt8) (k n : Int) : Int := if (code.length : Int) ≤ k ∨ n < 1 then 0 else (((code[k.toNat]?).map UInt8.toNat).getD 0 : Nat) % n
theorem a2N_in (code : List UInt8) (k n : Int) (hn : 1 ≤ n) : 0 ≤ a2N code k n ∧ a2N code k n < n := by
  unfold a2N
  split
  · omega
  · exact ⟨Int.emod_nonneg _ (by omega), Int.emod_lt_of_pos _ (by omega)⟩
theorem a2At_v (xs : List UInt8) (k : Nat) (n : Int) : PC Try.prog 7 [.d (.lst (xs.map bD)), .d (.int .i64 k), .d (.int .i64 n)] (.d (.int .i64 (a2N xs k n))) [] := by
  refine pc_intro ttOk (by kernel_rfl) Try.func7 rfl (by kernel_rfl) (by kernel_rfl) (by kernel_rfl) (fun hw => ?_)
  have h1 : (xs.map bD).length = xs.length := List.length_map _
  have hE : a2N xs k n = if (xs.length : Int) ≤ (k : Int) ∨ n < 1 then 0 else (((xs[k]?).map UInt8.toNat).getD 0 : Nat) % n := rfl
  (conv => whnf)
  by_cases hk : (xs.length : Int) ≤ k
  · rw [if_pos (.inl hk)] at hE
    rw [hE]
    (repeat' (first | (refine stg_ ?_) | fail | (refine br_ (fun hbr => ?_) (fun hbr => ?_))))
    all_goals first | (exfalso; omega) | ((refine RetOK.d rfl rfl ?_; conv => whnf); done)
  by_cases hn : n < 1
  · rw [if_pos (.inr hn)] at hE
    rw [hE]
    (repeat' (first | (refine stg_ ?_) | fail | (refine br_ (fun hbr => ?_) (fun hbr => ?_))))
    all_goals first | (exfalso; omega) | ((refine RetOK.d rfl rfl ?_; conv => whnf); done)
  rw [if_neg (by omega)] at hE
  obtain ⟨c, hc⟩ := at_lt' (xs := xs) (k := k) (by omega)
  have hx : (xs.map bD)[k]? = some (bD c) := by rw [List.getElem?_map, hc]; rfl
  have hcn := c.toNat_lt
  rw [hc] at hE
  rw [hE]
  have ht : ((c.toNat : Nat) : Int).tmod n = ((c.toNat : Nat) : Int) % n := Int.tmod_eq_emod_of_nonneg (by omega)
  (repeat' (first | (refine stg_ ?_) | fail | (refine br_ (fun hbr => ?_) (fun hbr => ?_))))
  all_goals first | (exfalso; omega) | ((refine RetOK.d rfl rfl ?_; conv => whnf); rw [ht]; rfl)
theorem cl_idx {F : List Int} (hs : srt F) {j : Nat} {x : Int} (h : F[j]? = some x) : cl F x = j := by
  rcases Nat.lt_trichotomy (cl F x) j with h1 | h1 | h1
  · have hj := (List.getElem?_eq_some_iff.1 h).1
    obtain ⟨y, hy⟩ := at_lt (xs := F) (k := cl F x) (by omega)
    have h2 := cl_at hy
    have h3 := hs _ _ y x h1 hy h
    omega
  · exact h1
  · have := cl_lt h1 h; omega
theorem mem_fd {F : List Int} (hs : srt F) (x : Int) : fd F x = true ↔ x ∈ F := by
  constructor
  · intro h
    exact List.mem_of_getElem? (by simpa [fd] using h)
  · intro h
    obtain ⟨j, hj⟩ := List.getElem?_of_mem h
    rw [fd, cl_idx hs hj, hj]; simp
theorem mv1_fix {K : List TKnot} {b : Nat} {F : List Int} {B : List TPt} (hs : srt F) {i : Nat} (h : ((b + i : Nat) : Int) ∈ F) : mv1 K b F B i = atB B (cl F ((b + i : Nat) : Int)) := by
  have h0 : ¬ F.length = 0 := fun e => by rw [List.eq_nil_of_length_eq_zero e] at h; cases h
  rw [mv1, if_neg h0, if_pos ((mem_fd hs _).2 h)]
theorem slF_at {α : Type} {ns : List Int} {xs : List α} {b n i : Nat} {x : α} (h1 : cl ns b ≤ i) (h2 : i < cl ns (b + n : Nat)) (hx : xs[i]? = some x) : (slF ns xs b n)[i - cl ns b]? = some x := by
  rw [slF, List.getElem?_take, if_pos (by omega), List.getElem?_drop, show cl ns b + (i - cl ns b) = i by omega]
  exact hx
theorem in_iff {ns : List Int} (hs : srt ns) {b n i : Nat} {x : Int} (hx : ns[i]? = some x) : inB x (b : Int) ((b : Int) + (n : Int) - 1) = decide (cl ns b ≤ i ∧ i < cl ns (b + n : Nat)) := by
  rw [inB, Bool.eq_iff_iff]
  simp only [Bool.and_eq_true, decide_eq_true_eq]
  constructor
  · rintro ⟨h1, h2⟩
    constructor
    · apply Classical.byContradiction
      intro h
      have := cl_lt (b := (b : Int)) (by omega) hx
      omega
    · apply Classical.byContradiction
      intro h
      have := cl_ge (b := ((b + n : Nat) : Int)) hs (by omega) hx
      omega
  · rintro ⟨h1, h2⟩
    have a1 := cl_ge (b := (b : Int)) hs h1 hx
    have a2 := cl_lt (b := ((b + n : Nat) : Int)) h2 hx
    omega
end Go.Proofs.Ytiflbcjabifpmaa
/- merged: several parts in one text. Leans on no more than they do. -/
import Derived.Test.YtcachhipflibkaaGreatLVBase
import Derived.Test.YtcachhipflibkaaGreatVMTac
import Derived.Test.YtcachhipflibkaaGreatTT
import Derived.Sort.Grow
import Derived.Test.YtcachhipflibkaaGreatShelf
set_option linter.unusedSimpArgs false
set_option linter.unusedVariables false
namespace Go.Proofs.YtcachhipflibkaaGreat
open Go.RowKit
def ltQ : Option Int → Int → Bool
  | none, _ => true
  | some q, x => decide (q < x)
def clG : Option Int → List Int → Bool
  | _, [] => true
  | o, x :: t => inB x 0 39 && (ltQ o x && clG (some x) t)
theorem clG_at {xs : List Int} {k : Nat} {x : Int} (hx : xs[k]? = some x) : clG (pv xs k) (xs.drop k) = (inB x 0 39 && (ltQ (pv xs k) x && clG (pv xs (k + 1)) (xs.drop (k + 1)))) := by
  rw [drop_at hx, clG, pv_succ, hx]
theorem clG_end {xs : List Int} {k : Nat} {o : Option Int} (hk : xs.length ≤ k) : clG o (xs.drop k) = true := by
  rw [List.drop_eq_nil_of_le hk]; rfl
def clsB (xs : List Int) : Bool := clG none xs
def fcB (xs : List Int) : Bool := decide (0 < xs.length) && clsB xs
def fcsB (lo : Nat) (xs : List (List Int)) : Bool := decide (lo ≤ xs.length) && (decide (xs.length ≤ 4) && xs.all fcB)
def ruB (r : TRule) : Bool := fcsB 0 r.fBefore && (fcsB 1 r.fInput && (fcsB 0 r.fAfter && (decide (r.fOutput.length ≤ 4) && r.fOutput.all fun g => inB g 0 39)))
def nmEq (s : ByteArray) (x : TLookup) : Bool := x.fName.toList == s.toList
def lkB (l : TLookup) : Bool := nameB l.fName && (decide (l.fRules.length ≤ 40) && l.fRules.all ruB)
def lkG (seen : List TLookup) : List TLookup → Bool
  | [] => true
  | x :: t => lkB x && (!seen.any (nmEq x.fName) && lkG (seen ++ [x]) t)
theorem lkG_at {xs : List TLookup} {k : Nat} {x : TLookup} (hx : xs[k]? = some x) : lkG (xs.take k) (xs.drop k) = (lkB x && (!(xs.take k).any (nmEq x.fName) && lkG (xs.take (k + 1)) (xs.drop (k + 1)))) := by
  rw [drop_at hx, lkG, take_snoc_get hx]
theorem lkG_end {xs : List TLookup} {k : Nat} {o : List TLookup} (hk : xs.length ≤ k) : lkG o (xs.drop k) = true := by
  rw [List.drop_eq_nil_of_le hk]; rfl
def lksB (xs : List TLookup) : Bool := decide (xs.length ≤ 8) && lkG [] xs
def knB (k : TKern) : Bool := fcB k.fLeft && (fcB k.fRight && inB k.fValue (-262144) 262144)
def mkB (m : TMarkRule) : Bool := fcB m.fMarks && (fcB m.fBases && nameB m.fAnchor)
def fmB (k f : Int) : Bool := inB f (-1) 39 && (!(k == 3) || f == -1)
def jnB (j : TJoin) : Bool := inB j.fGlyph 0 39 && (inB j.fKind 1 3 && (fmB j.fKind j.fInit && (fmB j.fKind j.fMedi && fmB j.fKind j.fFina)))
def ltJ : Option TJoin → TJoin → Bool
  | none, _ => true
  | some q, x => decide (q.fGlyph < x.fGlyph)
def jnG : Option TJoin → List TJoin → Bool
  | _, [] => true
  | o, x :: t => jnB x && (ltJ o x && jnG (some x) t)
theorem jnG_at {xs : List TJoin} {k : Nat} {x : TJoin} (hx : xs[k]? = some x) : jnG (pv xs k) (xs.drop k) = (jnB x && (ltJ (pv xs k) x && jnG (pv xs (k + 1)) (xs.drop (k + 1)))) := by
  rw [drop_at hx, jnG, pv_succ, hx]
theorem jnG_end {xs : List TJoin} {k : Nat} {o : Option TJoin} (hk : xs.length ≤ k) : jnG o (xs.drop k) = true := by
  rw [List.drop_eq_nil_of_le hk]; rfl
def ftB (f : TFeatures) : Bool :=
  lksB f.fLookups && (decide (f.fKerns.length ≤ 40) && (decide (f.fMarks.length ≤ 12) && (f.fKerns.all knB && (f.fMarks.all mkB && jnG none f.fJoins))))
def ruGl (r : TRule) : List Int := (r.fBefore ++ r.fInput ++ r.fAfter).flatten ++ r.fOutput
def lkGl (l : TLookup) : List Int := l.fRules.flatMap ruGl
def knGl (k : TKern) : List Int := k.fLeft ++ k.fRight
def mkGl (m : TMarkRule) : List Int := m.fMarks ++ m.fBases
def jnGl (j : TJoin) : List Int := j.fGlyph :: [j.fInit, j.fMedi, j.fFina].filter fun g => decide (0 ≤ g)
def usG (f : TFeatures) : List Int := f.fLookups.flatMap lkGl ++ f.fKerns.flatMap knGl ++ f.fMarks.flatMap mkGl ++ f.fJoins.flatMap jnGl
theorem clG_bnd : ∀ (xs : List Int) (o : Option Int), clG o xs = true → ∀ x ∈ xs, 0 ≤ x ∧ x ≤ 39
  | [], _, _, x, hx => by simp at hx
  | y :: t, o, h, x, hx => by
    simp only [clG, inB, Bool.and_eq_true, decide_eq_true_eq] at h
    rcases List.mem_cons.1 hx with rfl | hx
    · exact h.1
    · exact clG_bnd t _ h.2.2 x hx
theorem clG_len : ∀ (xs : List Int) (q : Int), clG (some q) xs = true → q ≤ 39 → (xs.length : Int) ≤ 39 - q
  | [], q, _, h => by simp; omega
  | y :: t, q, h, h0 => by
    simp only [clG, ltQ, inB, Bool.and_eq_true, decide_eq_true_eq] at h
    have := clG_len t y h.2.2 h.1.2
    simp only [List.length_cons]
    omega
theorem clsB_len {xs : List Int} (h : clsB xs = true) : xs.length ≤ 40 := by
  cases xs with
  | nil => simp
  | cons y t =>
    rw [clsB, clG] at h
    simp only [inB, Bool.and_eq_true, decide_eq_true_eq] at h
    have := clG_len t y h.2.2 h.1.2
    simp only [List.length_cons]
    omega
theorem fcB_len {xs : List Int} (h : fcB xs = true) : xs.length ≤ 40 := by
  simp only [fcB, Bool.and_eq_true] at h
  exact clsB_len h.2
theorem fcB_bnd {xs : List Int} (h : fcB xs = true) : ∀ x ∈ xs, 0 ≤ x ∧ x ≤ 39 := by
  simp only [fcB, Bool.and_eq_true] at h
  exact clG_bnd xs none h.2
theorem flatten_len {α : Type} {m : Nat} : ∀ (xs : List (List α)), (∀ x ∈ xs, x.length ≤ m) → xs.flatten.length ≤ xs.length * m
  | [], _ => by simp
  | x :: t, h => by
    have h1 := h x (by simp)
    have h2 := flatten_len t (fun y hy => h y (by simp [hy]))
    simp only [List.flatten_cons, List.length_append, List.length_cons, Nat.succ_mul]
    omega
theorem flatMap_len {α β : Type} {m : Nat} {f : α → List β} (xs : List α) (h : ∀ x ∈ xs, (f x).length ≤ m) : (xs.flatMap f).length ≤ xs.length * m := by
  have := flatten_len (m := m) (xs.map f) (by simpa using h)
  rw [List.length_map] at this
  rwa [List.flatMap_def]
theorem ruB_fcs {r : TRule} (h : ruB r = true) : (∀ c ∈ r.fBefore ++ r.fInput ++ r.fAfter, fcB c = true) ∧ (r.fBefore ++ r.fInput ++ r.fAfter).length ≤ 12 ∧ r.fOutput.length ≤ 4 ∧ (∀ g ∈ r.fOutput, 0 ≤ g ∧ g ≤ 39) ∧ 1 ≤ r.fInput.length := by
  simp only [ruB, fcsB, Bool.and_eq_true, decide_eq_true_eq, List.all_eq_true, inB] at h
  refine ⟨fun c hc => ?_, ?_, h.2.2.2.1, fun g hg => h.2.2.2.2 g hg, h.2.1.1⟩
  · simp only [List.mem_append] at hc
    rcases hc with (hc | hc) | hc
    · exact h.1.2.2 c hc
    · exact h.2.1.2.2 c hc
    · exact h.2.2.1.2.2 c hc
  · simp only [List.length_append]; omega
theorem ruGl_len {r : TRule} (h : ruB r = true) : (ruGl r).length ≤ 484 := by
  obtain ⟨h1, h2, h3, -⟩ := ruB_fcs h
  have := flatten_len (m := 40) _ (fun c hc => fcB_len (h1 c hc))
  have := Nat.mul_le_mul_right 40 h2
  rw [ruGl, List.length_append]
  omega
theorem ruGl_bnd {r : TRule} (h : ruB r = true) : ∀ g ∈ ruGl r, 0 ≤ g ∧ g ≤ 39 := by
  obtain ⟨h1, -, -, h4, -⟩ := ruB_fcs h
  intro g hg
  rw [ruGl, List.mem_append, List.mem_flatten] at hg
  rcases hg with ⟨c, hc, hg⟩ | hg
  · exact fcB_bnd (h1 c hc) g hg
  · exact h4 g hg
theorem lkB_ru {l : TLookup} (h : lkB l = true) : (∀ r ∈ l.fRules, ruB r = true) ∧ l.fRules.length ≤ 40 := by
  simp only [lkB, Bool.and_eq_true, decide_eq_true_eq, List.all_eq_true] at h
  exact ⟨h.2.2, h.2.1⟩
theorem lkGl_len {l : TLookup} (h : lkB l = true) : (lkGl l).length ≤ 19360 := by
  obtain ⟨h1, h2⟩ := lkB_ru h
  have := flatMap_len (m := 484) (f := ruGl) l.fRules (fun r hr => ruGl_len (h1 r hr))
  have := Nat.mul_le_mul_right 484 h2
  rw [lkGl]; omega
theorem lkG_all : ∀ (xs seen : List TLookup), lkG seen xs = true → ∀ x ∈ xs, lkB x = true
  | [], _, _, x, hx => by simp at hx
  | y :: t, seen, h, x, hx => by
    simp only [lkG, Bool.and_eq_true] at h
    rcases List.mem_cons.1 hx with rfl | hx
    · exact h.1
    · exact lkG_all t _ h.2.2 x hx
theorem jnG_all : ∀ (xs : List TJoin) (o : Option TJoin), jnG o xs = true → ∀ x ∈ xs, jnB x = true
  | [], _, _, x, hx => by simp at hx
  | y :: t, o, h, x, hx => by
    simp only [jnG, Bool.and_eq_true] at h
    rcases List.mem_cons.1 hx with rfl | hx
    · exact h.1
    · exact jnG_all t _ h.2.2 x hx
theorem jnG_len : ∀ (xs : List TJoin) (q : TJoin), jnG (some q) xs = true → q.fGlyph ≤ 39 → (xs.length : Int) ≤ 39 - q.fGlyph
  | [], q, _, h => by simp; omega
  | y :: t, q, h, h0 => by
    simp only [jnG, ltJ, jnB, inB, Bool.and_eq_true, decide_eq_true_eq] at h
    have := jnG_len t y h.2.2 h.1.1.2
    simp only [List.length_cons]
    omega
theorem jns_len {xs : List TJoin} (h : jnG none xs = true) : xs.length ≤ 40 := by
  cases xs with
  | nil => simp
  | cons y t =>
    rw [jnG] at h
    simp only [jnB, inB, Bool.and_eq_true, decide_eq_true_eq] at h
    have := jnG_len t y h.2.2 h.1.1.2
    simp only [List.length_cons]
    omega
structure FtF (f : TFeatures) : Prop where
  lk : ∀ l ∈ f.fLookups, lkB l = true
  lkn : f.fLookups.length ≤ 8
  kn : ∀ k ∈ f.fKerns, knB k = true
  knn : f.fKerns.length ≤ 40
  mar : ∀ k ∈ f.fMarks, mkB k = true
  marn : f.fMarks.length ≤ 12
  jn : ∀ k ∈ f.fJoins, jnB k = true
  jnn : f.fJoins.length ≤ 40
theorem ftB_F {f : TFeatures} (h : ftB f = true) : FtF f := by
  simp only [ftB, lksB, Bool.and_eq_true, decide_eq_true_eq, List.all_eq_true] at h
  exact ⟨lkG_all _ _ h.1.2, h.1.1, h.2.2.2.1, h.2.1, h.2.2.2.2.1, h.2.2.1, jnG_all _ _ h.2.2.2.2.2, jns_len h.2.2.2.2.2⟩
theorem knB_l {k : TKern} (h : knB k = true) : fcB k.fLeft = true ∧ fcB k.fRight = true := by
  simp only [knB, Bool.and_eq_true] at h; exact ⟨h.1, h.2.1⟩
theorem mkB_l {k : TMarkRule} (h : mkB k = true) : fcB k.fMarks = true ∧ fcB k.fBases = true := by
  simp only [mkB, Bool.and_eq_true] at h; exact ⟨h.1, h.2.1⟩
theorem jnGl_len (j : TJoin) : (jnGl j).length ≤ 4 := by
  have := List.length_filter_le (fun g => decide ((0 : Int) ≤ g)) [j.fInit, j.fMedi, j.fFina]
  simp only [jnGl, List.length_cons, List.length_nil] at this ⊢
  omega
theorem usG_bnd {f : TFeatures} (h : ftB f = true) : ∀ g ∈ usG f, 0 ≤ g ∧ g ≤ 39 := by
  have F := ftB_F h
  intro g hg
  simp only [usG, List.mem_append, List.mem_flatMap] at hg
  rcases hg with ((⟨l, hl, hg⟩ | ⟨k, hk, hg⟩) | ⟨k, hk, hg⟩) | ⟨j, hj, hg⟩
  · obtain ⟨r, hr, hg⟩ := List.mem_flatMap.1 (show g ∈ l.fRules.flatMap ruGl from hg)
    exact ruGl_bnd ((lkB_ru (F.lk l hl)).1 r hr) g hg
  · obtain ⟨h1, h2⟩ := knB_l (F.kn k hk)
    rcases List.mem_append.1 (show g ∈ k.fLeft ++ k.fRight from hg) with hg | hg
    · exact fcB_bnd h1 g hg
    · exact fcB_bnd h2 g hg
  · obtain ⟨h1, h2⟩ := mkB_l (F.mar k hk)
    rcases List.mem_append.1 (show g ∈ k.fMarks ++ k.fBases from hg) with hg | hg
    · exact fcB_bnd h1 g hg
    · exact fcB_bnd h2 g hg
  · have hb := F.jn j hj
    simp only [jnB, fmB, inB, Bool.and_eq_true, decide_eq_true_eq] at hb
    simp only [jnGl, List.mem_cons, List.mem_filter, List.not_mem_nil, or_false, decide_eq_true_eq] at hg
    rcases hg with rfl | ⟨rfl | rfl | rfl, hg⟩ <;> omega
theorem usG_all {f : TFeatures} (h : ftB f = true) : (usG f).all (fun g => decide (g < 40)) = true := by
  rw [List.all_eq_true]
  intro g hg
  have := usG_bnd h g hg
  simp; omega
def hasI (xs : List Int) (x : Int) : Bool := xs.any fun y => y == x
def inC : List (List Int) → List TItem → Bool
  | [], [] => true
  | c :: cs, x :: xs => hasI c x.fGlyph && inC cs xs
  | [], _ :: _ => false
  | _ :: _, [] => false
def cut (xs : List TItem) (a n : Nat) : List TItem := (xs.drop a).take n
def fit (cs : List (List Int)) (xs : List TItem) (a : Int) : Bool := decide (0 ≤ a) && (decide (a + cs.length ≤ xs.length) && inC cs (cut xs a.toNat cs.length))
def lenS {α : Type} : List (List α) → Nat
  | [] => 0
  | x :: xs => x.length + lenS xs
theorem lenS_app {α : Type} : ∀ xs ys : List (List α), lenS (xs ++ ys) = lenS xs + lenS ys
  | [], ys => by simp [lenS]
  | x :: xs, ys => by simp [lenS, lenS_app xs ys]; omega
theorem lenS_flat {α : Type} : ∀ xs : List (List α), xs.flatten.length = lenS xs
  | [] => rfl
  | x :: xs => by simp [lenS, lenS_flat xs]
theorem lenS_take {α : Type} (xs : List (List α)) (k : Nat) : lenS (xs.take k) ≤ lenS xs := by
  have := lenS_app (xs.take k) (xs.drop k)
  rw [List.take_append_drop] at this
  omega
theorem lenS_succ {α : Type} {xs : List (List α)} {k : Nat} {x : List α} (hx : xs[k]? = some x) : lenS (xs.take (k + 1)) = lenS (xs.take k) + x.length := by
  rw [take_snoc_get hx, lenS_app]; rfl
theorem growI_v (m : Nat) (hb : m ≤ 1000000) : PC Tryz.prog 201 [.nils, .d (.int .i64 m)] (.own 1 0 0) [.arr 1 (List.replicate m (D.int .i64 0)) true] := by
  refine pc_intro ttOk (by kernel_rfl) Tryz.func201 rfl (by kernel_rfl) (by kernel_rfl) (by kernel_rfl) (fun hw => ?_)
  (conv => whnf)
  (repeat' (first | (refine stg_ ?_) | (refine ZrW.atn m (by omega) (by omega) (by omega) (by (show m * 8 ≤ 140737488355328); omega) ?_; (conv => whnf)) | (refine br_ (fun hbr => ?_) (fun hbr => ?_))))
  all_goals first | (exfalso; omega) | skip
  · (refine ⟨⟨[some 1], ⟨by decide, rfl, trivial, trivial⟩, by decide, rfl, ?_⟩⟩; (conv => whnf); exact ⟨by decide, rfl⟩)
  · obtain rfl : m = 0 := by omega
    exact ⟨⟨[none], ⟨rfl, trivial⟩, by decide, rfl, by decide, rfl, rfl, rfl⟩⟩
set_option maxHeartbeats 2000000 in
theorem catI_v (xss : List (List Int)) (hb : lenS xss ≤ 1000000) : PC Tryz.prog 160 [.d (.lst (xss.map (lstD (D.int .i64))))] (.own 1 0 (lenS xss)) [.arr 1 (xss.flatten.map (D.int .i64)) true] := by
  refine pc_intro ttOk (by kernel_rfl) Tryz.func160 rfl (by kernel_rfl) (by kernel_rfl) (by kernel_rfl) (fun hw => ?_)
  have hL : (xss.map (lstD (D.int .i64))).length = xss.length := List.length_map _
  have hm : (xss.map (lstD (D.int .i64))).length ≤ 9223372036854775807 := hw.1.1
  (conv => whnf)
  refine LoopW.go (α := Nat) (fun k => [(0, .d (.lst (xss.map (lstD (D.int .i64))))), (2, .nils), (3, .d (.int .i64 (lenS (xss.take k)))), (9, .d (.lst (xss.map (lstD (D.int .i64))))), (10, .d (.int .i64 (xss.map (lstD (D.int .i64))).length)), (11, .d (.int .i64 k))]) (fun k => [.gone]) (fun k => k ≤ xss.length) (fun k => xss.length - k) 0 covT_ ?_ (fun k hk => ?_)
  · omega
  (conv => whnf)
  (refine br_ (fun h2 => ?_) (fun h2 => ?_) <;> (repeat (refine stg_ ?_)))
  · obtain ⟨x, hx⟩ := at_lt' (xs := xss) (k := k) (by omega)
    have hS := lenS_succ hx
    have hS2 := lenS_take xss (k + 1)
    have hxl : (x.map (D.int .i64)).length = x.length := List.length_map _
    (repeat' (first | (refine stg_ ?_) | fail | (refine br_ (fun hbr => ?_) (fun hbr => ?_))))
    all_goals first | (exfalso; omega) | (refine NextW.go (k + 1) (Weak.cov ⟨rfl, rfl, ?_, rfl, rfl, rfl, trivial⟩ ⟨trivial, trivial⟩ rfl) (by omega) (by omega); rw [hS, hxl]; rfl)
  · obtain rfl : k = xss.length := by omega
    rw [List.take_length] at *
    have c1 := growI_v (lenS xss) hb
    (repeat' (first | (refine stg_ ?_) | (refine cla_ (c1) ?_) | (refine br_ (fun hbr => ?_) (fun hbr => ?_))))
    refine LoopW.go (α := Nat) (fun k => [(0, .d (.lst (xss.map (lstD (D.int .i64))))), (6, .own 1 0 (lenS (xss.take k))), (25, .d (.lst (xss.map (lstD (D.int .i64))))), (26, .d (.int .i64 (xss.map (lstD (D.int .i64))).length)), (27, .d (.int .i64 k))]) (fun k => [.gone, .arr 1 ((xss.take k).flatten.map (D.int .i64)) true]) (fun k => k ≤ xss.length) (fun k => xss.length - k) 0 (Weak.trans (Weak.cut0 1 true rfl rfl) (Weak.cov ⟨rfl, rfl, rfl, rfl, rfl, trivial⟩ ⟨trivial, rfl, trivial⟩ rfl)) (by omega) (fun k hk => ?_)
    have hd : ((xss.take k).flatten.map (D.int .i64)).length = lenS (xss.take k) := by rw [List.length_map, lenS_flat]
    (conv => whnf)
    (refine br_ (fun h3 => ?_) (fun h3 => ?_) <;> (repeat (refine stg_ ?_)))
    · obtain ⟨x, hx⟩ := at_lt' (xs := xss) (k := k) (by omega)
      have hS := lenS_succ hx
      have hS2 := lenS_take xss (k + 1)
      have hxl : (x.map (D.int .i64)).length = x.length := List.length_map _
      have hF : (xss.take (k + 1)).flatten.map (D.int .i64) = (xss.take k).flatten.map (D.int .i64) ++ x.map (D.int .i64) := by rw [take_snoc_get hx, List.flatten_append, List.map_append]; simp
      (repeat' (first | (refine stg_ ?_) | fail | (refine br_ (fun hbr => ?_) (fun hbr => ?_))))
      refine NextW.go (k + 1) (Weak.cov ⟨rfl, ?_, rfl, rfl, rfl, trivial⟩ ⟨trivial, ?_, trivial⟩ rfl) (by omega) (by omega)
      · rw [hS, hxl]; rfl
      · rw [hF, ← hd, List.take_length]
    · obtain rfl : k = xss.length := by omega
      rw [List.take_length] at *
      (refine ⟨⟨[some 1], ⟨by decide, rfl, trivial, trivial⟩, by decide, rfl, ?_⟩⟩; (conv => whnf); exact ⟨by decide, rfl⟩)
theorem cloneI_v (xs : List Int) (hb : xs.length ≤ 1000000) : PC Tryz.prog 202 [.d (.lst (xs.map (D.int .i64)))] (.own 1 0 xs.length) [.arr 1 (xs.map (D.int .i64)) true] := by
  refine pc_intro ttOk (by kernel_rfl) Tryz.func202 rfl (by kernel_rfl) (by kernel_rfl) (by kernel_rfl) (fun hw => ?_)
  have hL : (xs.map (D.int .i64)).length = xs.length := List.length_map _
  (conv => whnf)
  (repeat' (first | (refine stg_ ?_) | (refine NlW.mk' (fun hnl => ?_) ?_) | (refine br_ (fun hbr => ?_) (fun hbr => ?_))))
  · obtain rfl : xs = [] := List.eq_nil_of_length_eq_zero (by omega)
    exact ⟨⟨[none], ⟨rfl, trivial⟩, by decide, rfl, by decide, rfl, rfl, rfl⟩⟩
  · refine ⟨⟨[some 1], ⟨by decide, rfl, trivial, trivial⟩, by decide, rfl, by decide, ?_⟩⟩
    show V.own 1 0 (0 + (xs.map (D.int .i64)).length) = _
    rw [Nat.zero_add, hL]
theorem growL_v (m : Nat) (hb : m ≤ 1000000) : PC Tryz.prog 200 [.nils, .d (.int .i64 m)] (.own 1 0 0) [.arr 1 (List.replicate m (D.lst [])) true] := by
  refine pc_intro ttOk (by kernel_rfl) Tryz.func200 rfl (by kernel_rfl) (by kernel_rfl) (by kernel_rfl) (fun hw => ?_)
  (conv => whnf)
  (repeat' (first | (refine stg_ ?_) | (refine ZrW.atn m (by omega) (by omega) (by omega) (by (show m * 24 ≤ 140737488355328); omega) ?_; (conv => whnf)) | (refine br_ (fun hbr => ?_) (fun hbr => ?_))))
  all_goals first | (exfalso; omega) | skip
  · (refine ⟨⟨[some 1], ⟨by decide, rfl, trivial, trivial⟩, by decide, rfl, ?_⟩⟩; (conv => whnf); exact ⟨by decide, rfl⟩)
  · obtain rfl : m = 0 := by omega
    exact ⟨⟨[none], ⟨rfl, trivial⟩, by decide, rfl, by decide, rfl, rfl, rfl⟩⟩
set_option maxHeartbeats 2000000 in
theorem catL_v (xss : List (List (List Int))) (hb : lenS xss ≤ 1000000) : PC Tryz.prog 159 [.d (.lst (xss.map (lstD (lstD (D.int .i64)))))] (.own 1 0 (lenS xss)) [.arr 1 (xss.flatten.map (lstD (D.int .i64))) false] := by
  refine pc_intro ttOk (by kernel_rfl) Tryz.func159 rfl (by kernel_rfl) (by kernel_rfl) (by kernel_rfl) (fun hw => ?_)
  have hL : (xss.map (lstD (lstD (D.int .i64)))).length = xss.length := List.length_map _
  have hm : (xss.map (lstD (lstD (D.int .i64)))).length ≤ 9223372036854775807 := hw.1.1
  (conv => whnf)
  refine LoopW.go (α := Nat) (fun k => [(0, .d (.lst (xss.map (lstD (lstD (D.int .i64)))))), (2, .nils), (3, .d (.int .i64 (lenS (xss.take k)))), (9, .d (.lst (xss.map (lstD (lstD (D.int .i64)))))), (10, .d (.int .i64 (xss.map (lstD (lstD (D.int .i64)))).length)), (11, .d (.int .i64 k))]) (fun k => [.gone]) (fun k => k ≤ xss.length) (fun k => xss.length - k) 0 covT_ ?_ (fun k hk => ?_)
  · omega
  (conv => whnf)
  (refine br_ (fun h2 => ?_) (fun h2 => ?_) <;> (repeat (refine stg_ ?_)))
  · obtain ⟨x, hx⟩ := at_lt' (xs := xss) (k := k) (by omega)
    have hS := lenS_succ hx
    have hS2 := lenS_take xss (k + 1)
    have hxl : (x.map (lstD (D.int .i64))).length = x.length := List.length_map _
    (repeat' (first | (refine stg_ ?_) | fail | (refine br_ (fun hbr => ?_) (fun hbr => ?_))))
    all_goals first | (exfalso; omega) | (refine NextW.go (k + 1) (Weak.cov ⟨rfl, rfl, ?_, rfl, rfl, rfl, trivial⟩ ⟨trivial, trivial⟩ rfl) (by omega) (by omega); rw [hS, hxl]; rfl)
  · obtain rfl : k = xss.length := by omega
    rw [List.take_length] at *
    have c1 := growL_v (lenS xss) hb
    (repeat' (first | (refine stg_ ?_) | (refine cla_ (c1) ?_) | (refine br_ (fun hbr => ?_) (fun hbr => ?_))))
    refine LoopW.go (α := Nat) (fun k => [(0, .d (.lst (xss.map (lstD (lstD (D.int .i64)))))), (6, .own 1 0 (lenS (xss.take k))), (25, .d (.lst (xss.map (lstD (lstD (D.int .i64)))))), (26, .d (.int .i64 (xss.map (lstD (lstD (D.int .i64)))).length)), (27, .d (.int .i64 k))]) (fun k => [.gone, .arr 1 ((xss.take k).flatten.map (lstD (D.int .i64))) false]) (fun k => k ≤ xss.length) (fun k => xss.length - k) 0 (Weak.trans (Weak.cut0 1 false rfl rfl) (Weak.cov ⟨rfl, rfl, rfl, rfl, rfl, trivial⟩ ⟨trivial, rfl, trivial⟩ rfl)) (by omega) (fun k hk => ?_)
    have hd : ((xss.take k).flatten.map (lstD (D.int .i64))).length = lenS (xss.take k) := by rw [List.length_map, lenS_flat]
    (conv => whnf)
    (refine br_ (fun h3 => ?_) (fun h3 => ?_) <;> (repeat (refine stg_ ?_)))
    · obtain ⟨x, hx⟩ := at_lt' (xs := xss) (k := k) (by omega)
      have hS := lenS_succ hx
      have hS2 := lenS_take xss (k + 1)
      have hxl : (x.map (lstD (D.int .i64))).length = x.length := List.length_map _
      have hF : (xss.take (k + 1)).flatten.map (lstD (D.int .i64)) = (xss.take k).flatten.map (lstD (D.int .i64)) ++ x.map (lstD (D.int .i64)) := by rw [take_snoc_get hx, List.flatten_append, List.map_append]; simp
      (repeat' (first | (refine stg_ ?_) | fail | (refine br_ (fun hbr => ?_) (fun hbr => ?_))))
      refine NextW.go (k + 1) (Weak.cov ⟨rfl, ?_, rfl, rfl, rfl, trivial⟩ ⟨trivial, ?_, trivial⟩ rfl) (by omega) (by omega)
      · rw [hS, hxl]; rfl
      · rw [hF, ← hd, List.take_length]
    · obtain rfl : k = xss.length := by omega
      rw [List.take_length] at *
      (refine ⟨⟨[some 1], ⟨by decide, rfl, trivial, trivial⟩, by decide, rfl, ?_⟩⟩; (conv => whnf); exact ⟨by decide, rfl⟩)
theorem isGlyphNumber_v (n : Int) : PC Tryz.prog 109 [.d (.int .i64 n)] (.d (.bool (inB n 0 39))) [] := by
  refine pc_intro ttOk (by kernel_rfl) Tryz.func109 rfl (by kernel_rfl) (by kernel_rfl) (by kernel_rfl) (fun hw => ?_)
  (conv => whnf)
  (repeat' (first | (refine stg_ ?_) | fail | (refine br_ (fun hbr => ?_) (fun hbr => ?_))))
  all_goals ((refine RetOK.d rfl rfl ?_; conv => whnf); simp_all [inB]; try omega)
theorem ValidClass_v (xs : List Int) : PC Tryz.prog 53 [.d (.lst (xs.map (D.int .i64)))] (.d (.bool (clsB xs))) [] := by
  refine pc_intro ttOk (by kernel_rfl) Tryz.func53 rfl (by kernel_rfl) (by kernel_rfl) (by kernel_rfl) (fun hw => ?_)
  have hL : (xs.map (D.int .i64)).length = xs.length := List.length_map _
  have hm : (xs.map (D.int .i64)).length ≤ 9223372036854775807 := hw.1.1
  (conv => whnf)
  refine LoopW.go (α := Nat) (fun k => [(0, .d (.lst (xs.map (D.int .i64)))), (5, .d (.lst (xs.map (D.int .i64)))), (6, .d (.int .i64 (xs.map (D.int .i64)).length)), (7, .d (.int .i64 k))]) (fun k => [.gone]) (fun k => k ≤ xs.length ∧ clsB xs = clG (pv xs k) (xs.drop k)) (fun k => xs.length - k) 0 covT_ ?_ (fun k hk => ?_)
  · exact ⟨by omega, rfl⟩
  obtain ⟨hk1, hk2⟩ := hk
  (conv => whnf)
  (refine br_ (fun h2 => ?_) (fun h2 => ?_) <;> (repeat (refine stg_ ?_)))
  · obtain ⟨x, hx⟩ := at_lt' (xs := xs) (k := k) (by omega)
    rw [clG_at hx] at hk2
    rcases Nat.eq_zero_or_pos k with rfl | h0
    · rw [pv_zero, ltQ, Bool.true_and] at hk2
      (repeat' (first | (refine stg_ ?_) | (refine cl_ (isGlyphNumber_v x) ?_) | (refine br_ (fun hbr => ?_) (fun hbr => ?_))))
      all_goals first | (exfalso; omega) | ((refine RetOK.d rfl rfl ?_; conv => whnf); simp_all; done) | skip
      all_goals exact NextW.go (0 + 1) covT_ ⟨by omega, by simp_all⟩ (by omega)
    · obtain ⟨p, hp⟩ := at_lt' (xs := xs) (k := k - 1) (by omega)
      have hp' : (xs.map (D.int .i64))[((k : Int) - 1).toNat]? = some (.int .i64 p) := by
        have : ((k : Int) - 1).toNat = k - 1 := by omega
        rw [this, List.getElem?_map, hp]; rfl
      rw [pv_pos _ h0, hp, ltQ] at hk2
      (repeat' (first | (refine stg_ ?_) | (refine cl_ (isGlyphNumber_v x) ?_) | (refine IxW.at (by omega) hp' ?_; (conv => whnf)) | (refine br_ (fun hbr => ?_) (fun hbr => ?_))))
      all_goals first | (exfalso; omega) | ((refine RetOK.d rfl rfl ?_; conv => whnf); simp_all; done) | ((refine RetOK.d rfl rfl ?_; conv => whnf); rw [hk2, show decide (p < x) = false by (rw [decide_eq_false_iff_not]; omega)]; simp; done) | skip
      all_goals exact NextW.go (k + 1) covT_ ⟨by omega, by simp_all⟩ (by omega)
  · (refine RetOK.d rfl rfl ?_; conv => whnf)
    rw [hk2, clG_end (by omega)]
theorem l23Ok_v (xs : List Int) : PC Tryz.prog 43 [.d (.lst (xs.map (D.int .i64)))] (.d (.bool (clsB xs))) [] := by
  refine pc_intro ttOk (by kernel_rfl) Tryz.func43 rfl (by kernel_rfl) (by kernel_rfl) (by kernel_rfl) (fun hw => ?_)
  have hL : (xs.map (D.int .i64)).length = xs.length := List.length_map _
  have hm : (xs.map (D.int .i64)).length ≤ 9223372036854775807 := hw.1.1
  (conv => whnf)
  refine LoopW.go (α := Nat) (fun k => [(0, .d (.lst (xs.map (D.int .i64)))), (3, .d (.int .i64 k))]) (fun k => [.gone]) (fun k => k ≤ xs.length ∧ clsB xs = clG (pv xs k) (xs.drop k)) (fun k => xs.length - k) 0 covT_ ?_ (fun k hk => ?_)
  · exact ⟨by omega, rfl⟩
  obtain ⟨hk1, hk2⟩ := hk
  (conv => whnf)
  (refine br_ (fun h2 => ?_) (fun h2 => ?_) <;> (repeat (refine stg_ ?_)))
  · obtain ⟨x, hx⟩ := at_lt' (xs := xs) (k := k) (by omega)
    rw [clG_at hx] at hk2
    rcases Nat.eq_zero_or_pos k with rfl | h0
    · rw [pv_zero, ltQ, Bool.true_and] at hk2
      (repeat' (first | (refine stg_ ?_) | (refine cl_ (l00In_v x _ _) ?_) | (refine br_ (fun hbr => ?_) (fun hbr => ?_))))
      all_goals first | (exfalso; omega) | ((refine RetOK.d rfl rfl ?_; conv => whnf); simp_all; done) | skip
      all_goals exact NextW.go (0 + 1) covT_ ⟨by omega, by simp_all⟩ (by omega)
    · obtain ⟨p, hp⟩ := at_lt' (xs := xs) (k := k - 1) (by omega)
      have hp' : (xs.map (D.int .i64))[((k : Int) - 1).toNat]? = some (.int .i64 p) := by
        have : ((k : Int) - 1).toNat = k - 1 := by omega
        rw [this, List.getElem?_map, hp]; rfl
      rw [pv_pos _ h0, hp, ltQ] at hk2
      (repeat' (first | (refine stg_ ?_) | (refine cl_ (l00In_v x _ _) ?_) | (refine IxW.at (by omega) hp' ?_; (conv => whnf)) | (refine br_ (fun hbr => ?_) (fun hbr => ?_))))
      all_goals first | (exfalso; omega) | ((refine RetOK.d rfl rfl ?_; conv => whnf); simp_all; done) | ((refine RetOK.d rfl rfl ?_; conv => whnf); rw [hk2, show decide (p < x) = false by (rw [decide_eq_false_iff_not]; omega)]; simp; done) | skip
      all_goals exact NextW.go (k + 1) covT_ ⟨by omega, by simp_all⟩ (by omega)
  · (refine RetOK.d rfl rfl ?_; conv => whnf)
    rw [hk2, clG_end (by omega)]
theorem fullClass_v (xs : List Int) : PC Tryz.prog 105 [.d (.lst (xs.map (D.int .i64)))] (.d (.bool (fcB xs))) [] := by
  refine pc_intro ttOk (by kernel_rfl) Tryz.func105 rfl (by kernel_rfl) (by kernel_rfl) (by kernel_rfl) (fun hw => ?_)
  have hL : (xs.map (D.int .i64)).length = xs.length := List.length_map _
  (conv => whnf)
  (repeat' (first | (refine stg_ ?_) | (refine cla_ (ValidClass_v xs) ?_) | (refine br_ (fun hbr => ?_) (fun hbr => ?_))))
  all_goals ((refine RetOK.d rfl rfl ?_; conv => whnf); simp_all [fcB]; try omega)
theorem l25Class_v (xs : List Int) : PC Tryz.prog 95 [.d (.lst (xs.map (D.int .i64)))] (.d (.bool (fcB xs))) [] := by
  refine pc_intro ttOk (by kernel_rfl) Tryz.func95 rfl (by kernel_rfl) (by kernel_rfl) (by kernel_rfl) (fun hw => ?_)
  have hL : (xs.map (D.int .i64)).length = xs.length := List.length_map _
  (conv => whnf)
  (repeat' (first | (refine stg_ ?_) | (refine cla_ (l23Ok_v xs) ?_) | (refine br_ (fun hbr => ?_) (fun hbr => ?_))))
  all_goals ((refine RetOK.d rfl rfl ?_; conv => whnf); simp_all [fcB]; try omega)
set_option maxHeartbeats 1000000 in
theorem ixL_v (xs : List (List Int)) (f : Nat) (p : (List Int) → Bool) (hf : ∀ x : (List Int), PC Tryz.prog f [.d (.lst (x.map (D.int .i64)))] (.d (.bool (p x))) []) :
    PC Tryz.prog 110 [.d (.lst (xs.map (lstD (D.int .i64)))), .fn (.func f) []] (.d (.int .i64 (fdx p xs 0))) [] := by
  refine pc_intro ttOk (by kernel_rfl) Tryz.func110 rfl (by kernel_rfl) (by kernel_rfl) (by kernel_rfl) (fun hw => ?_)
  have hL : (xs.map (lstD (D.int .i64))).length = xs.length := List.length_map _
  have hm : (xs.map (lstD (D.int .i64))).length ≤ 9223372036854775807 := hw.1.1
  (conv => whnf)
  refine LoopW.go (α := Nat) (fun k => [(0, .d (.lst (xs.map (lstD (D.int .i64))))), (1, .fn (.func f) []), (7, .d (.int .i64 (xs.map (lstD (D.int .i64))).length)), (8, .d (.int .i64 k))]) (fun k => [.gone]) (fun k => k ≤ xs.length ∧ fdx p xs 0 = fdx p (xs.drop k) k) (fun k => xs.length - k) 0 covT_ ?_ (fun k hk => ?_)
  · exact ⟨by omega, rfl⟩
  obtain ⟨hk1, hk2⟩ := hk
  (conv => whnf)
  (refine br_ (fun h2 => ?_) (fun h2 => ?_) <;> (repeat (refine stg_ ?_)))
  · obtain ⟨x, hx⟩ := at_lt' (xs := xs) (k := k) (by omega)
    rw [fdx_at hx] at hk2
    (repeat (refine stg_ ?_))
    (refine cla_ (hf x) ?_)
    (refine br_ (fun h3 => ?_) (fun h3 => ?_) <;> (repeat (refine stg_ ?_)))
    · (refine RetOK.d rfl rfl ?_; conv => whnf)
      rw [hk2, if_pos h3]
    · (repeat (refine stg_ ?_))
      exact NextW.go (k + 1) covT_ ⟨by omega, by rw [hk2, h3]; rfl⟩ (by omega)
  · (refine RetOK.d rfl rfl ?_; conv => whnf)
    rw [hk2, fdx_end (by omega)]
theorem ctL_v (xs : List (List Int)) (f : Nat) (p : (List Int) → Bool) (hf : ∀ x : (List Int), PC Tryz.prog f [.d (.lst (x.map (D.int .i64)))] (.d (.bool (p x))) []) :
    PC Tryz.prog 55 [.d (.lst (xs.map (lstD (D.int .i64)))), .fn (.func f) []] (.d (.bool (xs.any p))) [] := by
  refine pc_intro ttOk (by kernel_rfl) Tryz.func55 rfl (by kernel_rfl) (by kernel_rfl) (by kernel_rfl) (fun hw => ?_)
  (conv => whnf)
  (refine cla_ (ixL_v xs f p hf) ?_)
  (refine RetOK.d rfl rfl ?_; conv => whnf)
  rw [← fdx_any p xs 0]
set_option maxHeartbeats 1000000 in
theorem ixint64_v (xs : List Int) (f : Nat) (p : Int → Bool) (hf : ∀ x : Int, PC Tryz.prog f [.d (.int .i64 x)] (.d (.bool (p x))) []) :
    PC Tryz.prog 111 [.d (.lst (xs.map (D.int .i64))), .fn (.func f) []] (.d (.int .i64 (fdx p xs 0))) [] := by
  refine pc_intro ttOk (by kernel_rfl) Tryz.func111 rfl (by kernel_rfl) (by kernel_rfl) (by kernel_rfl) (fun hw => ?_)
  have hL : (xs.map (D.int .i64)).length = xs.length := List.length_map _
  have hm : (xs.map (D.int .i64)).length ≤ 9223372036854775807 := hw.1.1
  (conv => whnf)
  refine LoopW.go (α := Nat) (fun k => [(0, .d (.lst (xs.map (D.int .i64)))), (1, .fn (.func f) []), (7, .d (.int .i64 (xs.map (D.int .i64)).length)), (8, .d (.int .i64 k))]) (fun k => [.gone]) (fun k => k ≤ xs.length ∧ fdx p xs 0 = fdx p (xs.drop k) k) (fun k => xs.length - k) 0 covT_ ?_ (fun k hk => ?_)
  · exact ⟨by omega, rfl⟩
  obtain ⟨hk1, hk2⟩ := hk
  (conv => whnf)
  (refine br_ (fun h2 => ?_) (fun h2 => ?_) <;> (repeat (refine stg_ ?_)))
  · obtain ⟨x, hx⟩ := at_lt' (xs := xs) (k := k) (by omega)
    rw [fdx_at hx] at hk2
    (repeat (refine stg_ ?_))
    (refine cla_ (hf x) ?_)
    (refine br_ (fun h3 => ?_) (fun h3 => ?_) <;> (repeat (refine stg_ ?_)))
    · (refine RetOK.d rfl rfl ?_; conv => whnf)
      rw [hk2, if_pos h3]
    · (repeat (refine stg_ ?_))
      exact NextW.go (k + 1) covT_ ⟨by omega, by rw [hk2, h3]; rfl⟩ (by omega)
  · (refine RetOK.d rfl rfl ?_; conv => whnf)
    rw [hk2, fdx_end (by omega)]
theorem ctint64_v (xs : List Int) (f : Nat) (p : Int → Bool) (hf : ∀ x : Int, PC Tryz.prog f [.d (.int .i64 x)] (.d (.bool (p x))) []) :
    PC Tryz.prog 57 [.d (.lst (xs.map (D.int .i64))), .fn (.func f) []] (.d (.bool (xs.any p))) [] := by
  refine pc_intro ttOk (by kernel_rfl) Tryz.func57 rfl (by kernel_rfl) (by kernel_rfl) (by kernel_rfl) (fun hw => ?_)
  (conv => whnf)
  (refine cla_ (ixint64_v xs f p hf) ?_)
  (refine RetOK.d rfl rfl ?_; conv => whnf)
  rw [← fdx_any p xs 0]
set_option maxHeartbeats 1000000 in
theorem ixRule_v (xs : List TRule) (f : Nat) (p : TRule → Bool) (hf : ∀ x : TRule, PC Tryz.prog f [.d x.D] (.d (.bool (p x))) []) :
    PC Tryz.prog 197 [.d (.lst (xs.map TRule.D)), .fn (.func f) []] (.d (.int .i64 (fdx p xs 0))) [] := by
  refine pc_intro ttOk (by kernel_rfl) Tryz.func197 rfl (by kernel_rfl) (by kernel_rfl) (by kernel_rfl) (fun hw => ?_)
  have hL : (xs.map TRule.D).length = xs.length := List.length_map _
  have hm : (xs.map TRule.D).length ≤ 9223372036854775807 := hw.1.1
  (conv => whnf)
  refine LoopW.go (α := Nat) (fun k => [(0, .d (.lst (xs.map TRule.D))), (1, .fn (.func f) []), (7, .d (.int .i64 (xs.map TRule.D).length)), (8, .d (.int .i64 k))]) (fun k => [.gone]) (fun k => k ≤ xs.length ∧ fdx p xs 0 = fdx p (xs.drop k) k) (fun k => xs.length - k) 0 covT_ ?_ (fun k hk => ?_)
  · exact ⟨by omega, rfl⟩
  obtain ⟨hk1, hk2⟩ := hk
  (conv => whnf)
  (refine br_ (fun h2 => ?_) (fun h2 => ?_) <;> (repeat (refine stg_ ?_)))
  · obtain ⟨x, hx⟩ := at_lt' (xs := xs) (k := k) (by omega)
    rw [fdx_at hx] at hk2
    (repeat (refine stg_ ?_))
    (refine cla_ (hf x) ?_)
    (refine br_ (fun h3 => ?_) (fun h3 => ?_) <;> (repeat (refine stg_ ?_)))
    · (refine RetOK.d rfl rfl ?_; conv => whnf)
      rw [hk2, if_pos h3]
    · (repeat (refine stg_ ?_))
      exact NextW.go (k + 1) covT_ ⟨by omega, by rw [hk2, h3]; rfl⟩ (by omega)
  · (refine RetOK.d rfl rfl ?_; conv => whnf)
    rw [hk2, fdx_end (by omega)]
theorem ctRule_v (xs : List TRule) (f : Nat) (p : TRule → Bool) (hf : ∀ x : TRule, PC Tryz.prog f [.d x.D] (.d (.bool (p x))) []) :
    PC Tryz.prog 152 [.d (.lst (xs.map TRule.D)), .fn (.func f) []] (.d (.bool (xs.any p))) [] := by
  refine pc_intro ttOk (by kernel_rfl) Tryz.func152 rfl (by kernel_rfl) (by kernel_rfl) (by kernel_rfl) (fun hw => ?_)
  (conv => whnf)
  (refine cla_ (ixRule_v xs f p hf) ?_)
  (refine RetOK.d rfl rfl ?_; conv => whnf)
  rw [← fdx_any p xs 0]
set_option maxHeartbeats 1000000 in
theorem ixLookupp_v (xs : List TLookup) (f : Nat) (y0 : D) (p : TLookup → Bool) (hf : ∀ x : TLookup, PC Tryz.prog f [.d x.D, .pX y0] (.d (.bool (p x))) []) :
    PC Tryz.prog 155 [.d (.lst (xs.map TLookup.D)), .fn (.func f) [.pX y0]] (.d (.int .i64 (fdx p xs 0))) [] := by
  refine pc_intro ttOk (by kernel_rfl) Tryz.func155 rfl (by kernel_rfl) (by kernel_rfl) (by kernel_rfl) (fun hw => ?_)
  have hL : (xs.map TLookup.D).length = xs.length := List.length_map _
  have hm : (xs.map TLookup.D).length ≤ 9223372036854775807 := hw.1.1
  (conv => whnf)
  refine LoopW.go (α := Nat) (fun k => [(0, .d (.lst (xs.map TLookup.D))), (1, .fn (.func f) [.pX y0]), (7, .d (.int .i64 (xs.map TLookup.D).length)), (8, .d (.int .i64 k))]) (fun k => [.gone]) (fun k => k ≤ xs.length ∧ fdx p xs 0 = fdx p (xs.drop k) k) (fun k => xs.length - k) 0 covT_ ?_ (fun k hk => ?_)
  · exact ⟨by omega, rfl⟩
  obtain ⟨hk1, hk2⟩ := hk
  (conv => whnf)
  (refine br_ (fun h2 => ?_) (fun h2 => ?_) <;> (repeat (refine stg_ ?_)))
  · obtain ⟨x, hx⟩ := at_lt' (xs := xs) (k := k) (by omega)
    rw [fdx_at hx] at hk2
    (repeat (refine stg_ ?_))
    (refine cla_ (hf x) ?_)
    (refine br_ (fun h3 => ?_) (fun h3 => ?_) <;> (repeat (refine stg_ ?_)))
    · (refine RetOK.d rfl rfl ?_; conv => whnf)
      rw [hk2, if_pos h3]
    · (repeat (refine stg_ ?_))
      exact NextW.go (k + 1) covT_ ⟨by omega, by rw [hk2, h3]; rfl⟩ (by omega)
  · (refine RetOK.d rfl rfl ?_; conv => whnf)
    rw [hk2, fdx_end (by omega)]
theorem fullCs1_v (x : List Int) : PC Tryz.prog 234 [.d (.lst (x.map (D.int .i64)))] (.d (.bool (!fcB x))) [] := by
  refine pc_intro ttOk (by kernel_rfl) Tryz.func234 rfl (by kernel_rfl) (by kernel_rfl) (by kernel_rfl) (fun hw => ?_)
  (conv => whnf)
  (repeat' (first | (refine stg_ ?_) | (refine cla_ (fullClass_v x) ?_) | (refine br_ (fun hbr => ?_) (fun hbr => ?_))))
  all_goals ((refine RetOK.d rfl rfl ?_; conv => whnf); try rfl)
theorem fullClasses_v (xs : List (List Int)) (lo : Nat) (hlo : lo ≤ 1) : PC Tryz.prog 198 [.d (.lst (xs.map (lstD (D.int .i64)))), .d (.int .i64 lo), .d (.int .i64 4)] (.d (.bool (fcsB lo xs))) [] := by
  refine pc_intro ttOk (by kernel_rfl) Tryz.func198 rfl (by kernel_rfl) (by kernel_rfl) (by kernel_rfl) (fun hw => ?_)
  have hL : (xs.map (lstD (D.int .i64))).length = xs.length := List.length_map _
  have hA : xs.all fcB = !xs.any (fun x => !fcB x) := by simp [List.all_eq_not_any_not]
  (conv => whnf)
  (repeat' (first | (refine stg_ ?_) | (refine cla_ (ctL_v xs _ (fun x => !fcB x) fullCs1_v) ?_) | (refine br_ (fun hbr => ?_) (fun hbr => ?_))))
  all_goals ((refine RetOK.d rfl rfl ?_; conv => whnf); rw [fcsB, hA]; generalize (xs.any fun x => !fcB x) = q at *; simp_all; try omega)
theorem l25Classes_v (xs : List (List Int)) (lo : Nat) (hlo : lo ≤ 1) : PC Tryz.prog 195 [.d (.lst (xs.map (lstD (D.int .i64)))), .d (.int .i64 lo)] (.d (.bool (fcsB lo xs))) [] := by
  refine pc_intro ttOk (by kernel_rfl) Tryz.func195 rfl (by kernel_rfl) (by kernel_rfl) (by kernel_rfl) (fun hw => ?_)
  have hL : (xs.map (lstD (D.int .i64))).length = xs.length := List.length_map _
  have hm : (xs.map (lstD (D.int .i64))).length ≤ 9223372036854775807 := hw.1.1
  (conv => whnf)
  refine LoopW.go (α := Nat) (fun k => [(0, .d (.lst (xs.map (lstD (D.int .i64))))), (1, .d (.int .i64 lo)), (5, .d (.int .i64 k))]) (fun k => [.gone]) (fun k => k ≤ xs.length ∧ xs.all fcB = (xs.drop k).all fcB) (fun k => xs.length - k) 0 covT_ ?_ (fun k hk => ?_)
  · exact ⟨by omega, rfl⟩
  obtain ⟨hk1, hk2⟩ := hk
  (conv => whnf)
  (refine br_ (fun h2 => ?_) (fun h2 => ?_) <;> (repeat (refine stg_ ?_)))
  · obtain ⟨x, hx⟩ := at_lt' (xs := xs) (k := k) (by omega)
    rw [drop_at hx, List.all_cons] at hk2
    (repeat' (first | (refine stg_ ?_) | (refine cla_ (l25Class_v x) ?_) | (refine br_ (fun hbr => ?_) (fun hbr => ?_))))
    all_goals first | ((refine RetOK.d rfl rfl ?_; conv => whnf); rw [fcsB, hk2]; simp_all; done) | skip
    all_goals exact NextW.go (k + 1) covT_ ⟨by omega, by rw [hk2]; simp_all⟩ (by omega)
  · rw [List.drop_eq_nil_of_le (by omega)] at hk2
    (repeat' (first | (refine stg_ ?_) | (refine cl_ (l00In_v _ _ _) ?_) | (refine br_ (fun hbr => ?_) (fun hbr => ?_))))
    (refine RetOK.d rfl rfl ?_; conv => whnf)
    rw [fcsB, hk2, hL, List.all_nil, Bool.and_true, inB]
    congr 2 <;> (congr 1; simp; try omega)
theorem ValidRule1_v (n : Int) : PC Tryz.prog 199 [.d (.int .i64 n)] (.d (.bool (!inB n 0 39))) [] := by
  refine pc_intro ttOk (by kernel_rfl) Tryz.func199 rfl (by kernel_rfl) (by kernel_rfl) (by kernel_rfl) (fun hw => ?_)
  (conv => whnf)
  (repeat' (first | (refine stg_ ?_) | (refine cl_ (isGlyphNumber_v n) ?_) | (refine br_ (fun hbr => ?_) (fun hbr => ?_))))
  all_goals ((refine RetOK.d rfl rfl ?_; conv => whnf); try rfl)
theorem ValidRule_v (r : TRule) : PC Tryz.prog 154 [.d r.D] (.d (.bool (ruB r))) [] := by
  refine pc_intro ttOk (by kernel_rfl) Tryz.func154 rfl (by kernel_rfl) (by kernel_rfl) (by kernel_rfl) (fun hw => ?_)
  have hL : (r.fOutput.map (D.int .i64)).length = r.fOutput.length := List.length_map _
  have hA : (r.fOutput.all fun g => inB g 0 39) = !r.fOutput.any (fun x => !inB x 0 39) := by simp [List.all_eq_not_any_not]
  have c1 := fullClasses_v r.fBefore 0 (by omega)
  have c2 := fullClasses_v r.fInput 1 (by omega)
  have c3 := fullClasses_v r.fAfter 0 (by omega)
  have c4 := ctint64_v r.fOutput _ (fun x => !inB x 0 39) ValidRule1_v
  rw [ruB, hA]
  generalize (r.fOutput.any fun x => !inB x 0 39) = q at *
  (conv => whnf)
  (repeat' (first | (refine stg_ ?_) | (refine cla_ (c1) ?_) | (refine cla_ (c2) ?_) | (refine cla_ (c3) ?_) | (refine cla_ (c4) ?_) | (refine br_ (fun hbr => ?_) (fun hbr => ?_))))
  all_goals ((refine RetOK.d rfl rfl ?_; conv => whnf); simp_all; try omega)
theorem l25Rule_v (r : TRule) : PC Tryz.prog 148 [.pX r.D] (.d (.bool (ruB r))) [] := by
  refine pc_intro ttOk (by kernel_rfl) Tryz.func148 rfl (by kernel_rfl) (by kernel_rfl) (by kernel_rfl) (fun hw => ?_)
  have hL : (r.fOutput.map (D.int .i64)).length = r.fOutput.length := List.length_map _
  have hm : (r.fOutput.map (D.int .i64)).length ≤ 9223372036854775807 := hw.1.2.2.2.1.1
  have c1 := l25Classes_v r.fBefore 0 (by omega)
  have c2 := l25Classes_v r.fInput 1 (by omega)
  have c3 := l25Classes_v r.fAfter 0 (by omega)
  (conv => whnf)
  refine LoopW.go (α := Nat) (fun k => [(0, .pX r.D), (3, .d (.int .i64 k))]) (fun k => [.gone]) (fun k => k ≤ r.fOutput.length ∧ (r.fOutput.all fun g => inB g 0 39) = (r.fOutput.drop k).all (fun g => inB g 0 39)) (fun k => r.fOutput.length - k) 0 covT_ ?_ (fun k hk => ?_)
  · exact ⟨by omega, rfl⟩
  obtain ⟨hk1, hk2⟩ := hk
  (conv => whnf)
  (refine br_ (fun h2 => ?_) (fun h2 => ?_) <;> (repeat (refine stg_ ?_)))
  · obtain ⟨x, hx⟩ := at_lt' (xs := r.fOutput) (k := k) (by omega)
    rw [drop_at hx, List.all_cons] at hk2
    (repeat' (first | (refine stg_ ?_) | (refine cl_ (l00In_v x _ _) ?_) | (refine br_ (fun hbr => ?_) (fun hbr => ?_))))
    all_goals first | ((refine RetOK.d rfl rfl ?_; conv => whnf); rw [ruB, hk2]; simp_all; done) | skip
    all_goals exact NextW.go (k + 1) covT_ ⟨by omega, by rw [hk2]; simp_all⟩ (by omega)
  · rw [List.drop_eq_nil_of_le (by omega)] at hk2
    (repeat' (first | (refine stg_ ?_) | (refine cla_ (c1) ?_) | (refine cla_ (c2) ?_) | (refine cla_ (c3) ?_) | (refine br_ (fun hbr => ?_) (fun hbr => ?_))))
    all_goals ((refine RetOK.d rfl rfl ?_; conv => whnf); rw [ruB, hk2]; simp_all; try omega)
theorem validLk1_v (r : TRule) : PC Tryz.prog 153 [.d r.D] (.d (.bool (!ruB r))) [] := by
  refine pc_intro ttOk (by kernel_rfl) Tryz.func153 rfl (by kernel_rfl) (by kernel_rfl) (by kernel_rfl) (fun hw => ?_)
  (conv => whnf)
  (repeat' (first | (refine stg_ ?_) | (refine cla_ (ValidRule_v r) ?_) | (refine br_ (fun hbr => ?_) (fun hbr => ?_))))
  all_goals ((refine RetOK.d rfl rfl ?_; conv => whnf); try rfl)
theorem validLookup_v (l : TLookup) : PC Tryz.prog 103 [.d l.D] (.d (.bool (lkB l))) [] := by
  refine pc_intro ttOk (by kernel_rfl) Tryz.func103 rfl (by kernel_rfl) (by kernel_rfl) (by kernel_rfl) (fun hw => ?_)
  have hL : (l.fRules.map TRule.D).length = l.fRules.length := List.length_map _
  have hA : l.fRules.all ruB = !l.fRules.any (fun x => !ruB x) := by simp [List.all_eq_not_any_not]
  have c1 := IsName_v l.fName
  have c4 := ctRule_v l.fRules _ (fun x => !ruB x) validLk1_v
  rw [lkB, hA]
  generalize (l.fRules.any fun x => !ruB x) = q at *
  (conv => whnf)
  (repeat' (first | (refine stg_ ?_) | (refine cla_ (c1) ?_) | (refine cla_ (c4) ?_) | (refine br_ (fun hbr => ?_) (fun hbr => ?_))))
  all_goals ((refine RetOK.d rfl rfl ?_; conv => whnf); simp_all; try omega)
theorem lookupNm1_v (x : TLookup) (s : ByteArray) : PC Tryz.prog 156 [.d x.D, .pX (.str s)] (.d (.bool (nmEq s x))) [] := by
  refine pc_intro ttOk (by kernel_rfl) Tryz.func156 rfl (by kernel_rfl) (by kernel_rfl) (by kernel_rfl) (fun hw => ?_)
  (conv => whnf)
  (refine RetOK.d rfl rfl ?_; conv => whnf)
  rfl
theorem lookupNamed_v (xs : List TLookup) (s : ByteArray) : PC Tryz.prog 104 [.d (.lst (xs.map TLookup.D)), .d (.str s)] (.d (.int .i64 (fdx (nmEq s) xs 0))) [] := by
  refine pc_intro ttOk (by kernel_rfl) Tryz.func104 rfl (by kernel_rfl) (by kernel_rfl) (by kernel_rfl) (fun hw => ?_)
  (conv => whnf)
  (repeat' (first | (refine stg_ ?_) | (refine cla_ (ixLookupp_v xs _ (.str s) (nmEq s) (fun x => lookupNm1_v x s)) ?_) | (refine br_ (fun hbr => ?_) (fun hbr => ?_))))
  (refine RetOK.d rfl rfl ?_; conv => whnf)
theorem validJoin_v (j : TJoin) : PC Tryz.prog 107 [.d j.D] (.d (.bool (jnB j))) [] := by
  refine pc_intro ttOk (by kernel_rfl) Tryz.func107 rfl (by kernel_rfl) (by kernel_rfl) (by kernel_rfl) (fun hw => ?_)
  have hB : jnB j = (inB j.fGlyph 0 39 && inB j.fKind 1 3 && [j.fInit, j.fMedi, j.fFina].all (fmB j.fKind)) := by simp [jnB, Bool.and_assoc]
  have hl : [j.fInit, j.fMedi, j.fFina].length = 3 := rfl
  obtain ⟨AL, hA⟩ : ∃ AL, AL = [j.fInit, j.fMedi, j.fFina].all (fmB j.fKind) := ⟨_, rfl⟩
  rw [← hA] at hB
  (conv => whnf)
  refine LoopW.go (α := Nat) (fun k => [(1, .pB 1 [] 0), (11, .own 2 0 3), (12, .d (.int .i64 3)), (13, .d (.int .i64 k))]) (fun k => [.gone, .box (.d j.D), .arr 1 ([j.fInit, j.fMedi, j.fFina].map (D.int .i64)) true]) (fun k => k ≤ 3 ∧ AL = ([j.fInit, j.fMedi, j.fFina].drop k).all (fmB j.fKind)) (fun k => 3 - k) 0 covT_ ?_ (fun k hk => ?_)
  · exact ⟨by omega, hA⟩
  clear hA
  obtain ⟨hk1, hk2⟩ := hk
  (conv => whnf)
  (refine br_ (fun h2 => ?_) (fun h2 => ?_) <;> (repeat (refine stg_ ?_)))
  · obtain ⟨x, hx⟩ := at_lt' (xs := [j.fInit, j.fMedi, j.fFina]) (k := k) (by omega)
    have hx' : ([j.fInit, j.fMedi, j.fFina].map (D.int .i64))[k]? = some (.int .i64 x) := by rw [List.getElem?_map, hx]; rfl
    rw [drop_at hx, List.all_cons] at hk2
    generalize [j.fInit, j.fMedi, j.fFina] = fs at *
    (repeat' (first | (refine stg_ ?_) | fail | (refine br_ (fun hbr => ?_) (fun hbr => ?_))))
    all_goals first | ((refine RetOK.d rfl rfl ?_; conv => whnf); rw [hB, hk2]; simp_all [fmB, inB]; done) | ((refine RetOK.d rfl rfl ?_; conv => whnf); rw [hB, hk2]; simp_all [fmB, inB]; omega) | skip
    all_goals exact NextW.go (k + 1) covT_ ⟨by omega, by (rw [hk2]; clear hk2; simp_all [fmB, inB] <;> (try omega) <;> (try (intro _; omega)))⟩ (by omega)
  · rw [List.drop_eq_nil_of_le (by omega)] at hk2
    rw [hk2] at hB
    (repeat' (first | (refine stg_ ?_) | (refine cl_ (isGlyphNumber_v _) ?_) | (refine br_ (fun hbr => ?_) (fun hbr => ?_))))
    all_goals ((refine RetOK.d rfl rfl ?_; conv => whnf); rw [hB]; simp_all [inB]; try omega)
theorem l25Join_v (j : TJoin) : PC Tryz.prog 97 [.pX j.D] (.d (.bool (jnB j))) [] := by
  refine pc_intro ttOk (by kernel_rfl) Tryz.func97 rfl (by kernel_rfl) (by kernel_rfl) (by kernel_rfl) (fun hw => ?_)
  (conv => whnf)
  (repeat' (first | (refine stg_ ?_) | (refine cl_ (l00In_v _ _ _) ?_) | (refine br_ (fun hbr => ?_) (fun hbr => ?_))))
  all_goals ((refine RetOK.d rfl rfl ?_; conv => whnf); simp_all [jnB, fmB])
set_option maxHeartbeats 2000000 in
theorem l25Lookups_v (xs : List TLookup) : PC Tryz.prog 94 [.d (.lst (xs.map TLookup.D))] (.d (.bool (lksB xs))) [] := by
  refine pc_intro ttOk (by kernel_rfl) Tryz.func94 rfl (by kernel_rfl) (by kernel_rfl) (by kernel_rfl) (fun hw => ?_)
  have hL : (xs.map TLookup.D).length = xs.length := List.length_map _
  have hm : (xs.map TLookup.D).length ≤ 9223372036854775807 := hw.1.1
  (conv => whnf)
  refine LoopW.go (α := Nat) (fun k => [(0, .d (.lst (xs.map TLookup.D))), (3, .d (.int .i64 k))]) (fun k => [.gone]) (fun k => k ≤ xs.length ∧ lkG [] xs = lkG (xs.take k) (xs.drop k)) (fun k => xs.length - k) 0 covT_ ?_ (fun k hk => ?_)
  · exact ⟨by omega, rfl⟩
  obtain ⟨hk1, hk2⟩ := hk
  (conv => whnf)
  (refine br_ (fun h2 => ?_) (fun h2 => ?_) <;> (repeat (refine stg_ ?_)))
  · obtain ⟨x, hx⟩ := at_lt' (xs := xs) (k := k) (by omega)
    rw [lkG_at hx] at hk2
    have hR : (x.fRules.map TRule.D).length = x.fRules.length := List.length_map _
    have hx' : (xs.map TLookup.D)[k]? = some x.D := by rw [List.getElem?_map, hx]; rfl
    have c1 := specIsName_v x.fName
    (repeat' (first | (refine stg_ ?_) | (refine cla_ (c1) ?_) | (refine br_ (fun hbr => ?_) (fun hbr => ?_))))
    all_goals first | ((refine RetOK.d rfl rfl ?_; conv => whnf); rw [lksB, hk2, lkB]; simp_all; done) | ((refine RetOK.d rfl rfl ?_; conv => whnf); rw [lksB, hk2, lkB, show decide (x.fRules.length ≤ 40) = false by (rw [decide_eq_false_iff_not]; omega)]; simp; done) | skip
    refine LoopW.go (α := Nat) (fun m => [(0, .d (.lst (xs.map TLookup.D))), (3, .d (.int .i64 k)), (4, .d (.int .i64 m))]) (fun _ => [.gone]) (fun m => m ≤ k ∧ (xs.take m).any (nmEq x.fName) = false) (fun m => k - m) 0 covT_ ⟨by omega, rfl⟩ (fun m hm => ?_)
    obtain ⟨hm1, hm2⟩ := hm
    (conv => whnf)
    (refine br_ (fun h3 => ?_) (fun h3 => ?_) <;> (repeat (refine stg_ ?_)))
    · obtain ⟨y, hy⟩ := at_lt' (xs := xs) (k := m) (by omega)
      have hS := any_snoc (p := nmEq x.fName) hy
      (repeat' (first | (refine stg_ ?_) | fail | (refine br_ (fun hbr => ?_) (fun hbr => ?_))))
      · (refine RetOK.d rfl rfl ?_; conv => whnf)
        have h4 := any_take (p := nmEq x.fName) hy (k := k) (by omega) (by simp_all [nmEq])
        rw [lksB, hk2, h4]; simp
      · exact NextW.go (m + 1) covT_ ⟨by omega, by rw [hS, hm2]; simp_all [nmEq]⟩ (by omega)
    · obtain rfl : m = k := by omega
      rw [hm2] at hk2
      refine LoopW.go (α := Nat) (fun j => [(0, .d (.lst (xs.map TLookup.D))), (3, .d (.int .i64 m)), (5, .d (.int .i64 j))]) (fun _ => [.gone]) (fun j => j ≤ x.fRules.length ∧ x.fRules.all ruB = (x.fRules.drop j).all ruB) (fun j => x.fRules.length - j) 0 covT_ ⟨by omega, rfl⟩ (fun j hj => ?_)
      obtain ⟨hj1, hj2⟩ := hj
      (conv => whnf)
      (repeat (refine stg_ ?_))
      (refine br_ (fun h4 => ?_) (fun h4 => ?_) <;> (repeat (refine stg_ ?_)))
      · obtain ⟨r, hr⟩ := at_lt' (xs := x.fRules) (k := j) (by omega)
        rw [drop_at hr, List.all_cons] at hj2
        (repeat' (first | (refine stg_ ?_) | (refine cla_ (l25Rule_v r) ?_) | (refine br_ (fun hbr => ?_) (fun hbr => ?_))))
        all_goals first | ((refine RetOK.d rfl rfl ?_; conv => whnf); rw [lksB, hk2, lkB, hj2]; simp_all; done) | skip
        all_goals exact NextW.go (j + 1) covT_ ⟨by omega, by rw [hj2]; simp_all⟩ (by omega)
      · rw [List.drop_eq_nil_of_le (by omega)] at hj2
        (repeat (refine stg_ ?_))
        exact NextW.go (m + 1) covT_ ⟨by omega, by rw [hk2, lkB, hj2]; simp_all; try omega⟩ (by omega)
  · (refine RetOK.d rfl rfl ?_; conv => whnf)
    rw [lksB, hk2, lkG_end (by omega), Bool.and_true]
    congr 1
    rw [Bool.eq_iff_iff]; simp; try omega
theorem l00Has_v (xs : List Int) (x : Int) : PC Tryz.prog 47 [.d (.lst (xs.map (D.int .i64))), .d (.int .i64 x)] (.d (.bool (hasI xs x))) [] := by
  refine pc_intro ttOk (by kernel_rfl) Tryz.func47 rfl (by kernel_rfl) (by kernel_rfl) (by kernel_rfl) (fun hw => ?_)
  have hL : (xs.map (D.int .i64)).length = xs.length := List.length_map _
  have hm : (xs.map (D.int .i64)).length ≤ 9223372036854775807 := hw.1.1
  (conv => whnf)
  refine LoopW.go (α := Nat) (fun k => [(0, .d (.lst (xs.map (D.int .i64)))), (1, .d (.int .i64 x)), (5, .d (.int .i64 k))]) (fun k => [.gone]) (fun k => k ≤ xs.length ∧ hasI xs x = hasI (xs.drop k) x) (fun k => xs.length - k) 0 covT_ ?_ (fun k hk => ?_)
  · exact ⟨by omega, rfl⟩
  obtain ⟨hk1, hk2⟩ := hk
  (conv => whnf)
  (refine br_ (fun h2 => ?_) (fun h2 => ?_) <;> (repeat (refine stg_ ?_)))
  · obtain ⟨y, hy⟩ := at_lt' (xs := xs) (k := k) (by omega)
    rw [drop_at hy] at hk2
    change _ = ((y == x) || hasI (xs.drop (k + 1)) x) at hk2
    (repeat' (first | (refine stg_ ?_) | fail | (refine br_ (fun hbr => ?_) (fun hbr => ?_))))
    all_goals first | ((refine RetOK.d rfl rfl ?_; conv => whnf); rw [hk2]; simp_all; done) | skip
    all_goals exact NextW.go (k + 1) covT_ ⟨by omega, by rw [hk2]; simp_all⟩ (by omega)
  · (refine RetOK.d rfl rfl ?_; conv => whnf)
    rw [hk2, List.drop_eq_nil_of_le (by omega)]; rfl
set_option maxHeartbeats 4000000 in
theorem l25Ok_v (f : TFeatures) : PC Tryz.prog 42 [.pX f.D] (.d (.bool (ftB f))) [] := by
  refine pc_intro ttOk (by kernel_rfl) Tryz.func42 rfl (by kernel_rfl) (by kernel_rfl) (by kernel_rfl) (fun hw => ?_)
  have hK : (f.fKerns.map TKern.D).length = f.fKerns.length := List.length_map _
  have hM : (f.fMarks.map TMarkRule.D).length = f.fMarks.length := List.length_map _
  have hJ : (f.fJoins.map TJoin.D).length = f.fJoins.length := List.length_map _
  have hJm : (f.fJoins.map TJoin.D).length ≤ 9223372036854775807 := hw.1.2.2.2.1.1
  have c1 := l25Lookups_v f.fLookups
  have hF : ftB f = (lksB f.fLookups && (decide (f.fKerns.length ≤ 40) && (decide (f.fMarks.length ≤ 12) && (f.fKerns.all knB && (f.fMarks.all mkB && jnG none f.fJoins))))) := rfl
  generalize ftB f = R at hF ⊢
  (conv => whnf)
  (repeat' (first | (refine stg_ ?_) | (refine cla_ (c1) ?_) | (refine br_ (fun hbr => ?_) (fun hbr => ?_))))
  all_goals first | ((refine RetOK.d rfl rfl ?_; conv => whnf); rw [hF]; simp_all; done) | ((refine RetOK.d rfl rfl ?_; conv => whnf); rw [hF, show decide (f.fKerns.length ≤ 40) = false by (rw [decide_eq_false_iff_not]; omega)]; simp; done) | ((refine RetOK.d rfl rfl ?_; conv => whnf); rw [hF, show decide (f.fMarks.length ≤ 12) = false by (rw [decide_eq_false_iff_not]; omega)]; simp; done) | skip
  have hk40 : f.fKerns.length ≤ 40 := by omega
  have hm12 : f.fMarks.length ≤ 12 := by omega
  have hl8 : lksB f.fLookups = true := by assumption
  rw [hl8, decide_eq_true hk40, decide_eq_true hm12, Bool.true_and, Bool.true_and, Bool.true_and] at hF
  clear c1 hl8
  refine LoopW.go (α := Nat) (fun k => [(0, .pX f.D), (3, .d (.int .i64 k))]) (fun k => [.gone]) (fun k => k ≤ f.fKerns.length ∧ f.fKerns.all knB = (f.fKerns.drop k).all knB) (fun k => f.fKerns.length - k) 0 covT_ ?_ (fun k hk => ?_)
  · exact ⟨by omega, rfl⟩
  obtain ⟨hk1, hk2⟩ := hk
  (conv => whnf)
  (repeat (refine stg_ ?_))
  (refine br_ (fun h2 => ?_) (fun h2 => ?_) <;> (repeat (refine stg_ ?_)))
  · obtain ⟨x, hx⟩ := at_lt' (xs := f.fKerns) (k := k) (by omega)
    rw [drop_at hx, List.all_cons] at hk2
    (repeat' (first | (refine stg_ ?_) | (refine cla_ (l25Class_v x.fLeft) ?_) | (refine cla_ (l25Class_v x.fRight) ?_) | (refine cl_ (l00In_v _ _ _) ?_) | (refine br_ (fun hbr => ?_) (fun hbr => ?_))))
    all_goals first | ((refine RetOK.d rfl rfl ?_; conv => whnf); rw [hF, hk2, knB]; simp_all; done) | skip
    all_goals exact NextW.go (k + 1) covT_ ⟨by omega, by rw [hk2, knB]; simp_all⟩ (by omega)
  rw [List.drop_eq_nil_of_le (by omega), List.all_nil] at hk2
  rw [hk2, Bool.true_and] at hF
  clear hk2 h2 hk1
  (repeat (refine stg_ ?_))
  refine LoopW.go (α := Nat) (fun j => [(0, .pX f.D), (5, .d (.int .i64 j))]) (fun _ => [.gone]) (fun j => j ≤ f.fMarks.length ∧ f.fMarks.all mkB = (f.fMarks.drop j).all mkB) (fun j => f.fMarks.length - j) 0 covT_ ⟨by omega, rfl⟩ (fun j hj => ?_)
  obtain ⟨hj1, hj2⟩ := hj
  (conv => whnf)
  (repeat (refine stg_ ?_))
  (refine br_ (fun h2 => ?_) (fun h2 => ?_) <;> (repeat (refine stg_ ?_)))
  · obtain ⟨x, hx⟩ := at_lt' (xs := f.fMarks) (k := j) (by omega)
    rw [drop_at hx, List.all_cons] at hj2
    (repeat' (first | (refine stg_ ?_) | (refine cla_ (l25Class_v x.fMarks) ?_) | (refine cla_ (l25Class_v x.fBases) ?_) | (refine cla_ (specIsName_v x.fAnchor) ?_) | (refine br_ (fun hbr => ?_) (fun hbr => ?_))))
    all_goals first | ((refine RetOK.d rfl rfl ?_; conv => whnf); rw [hF, hj2, mkB]; simp_all; done) | skip
    all_goals exact NextW.go (j + 1) covT_ ⟨by omega, by rw [hj2, mkB]; simp_all⟩ (by omega)
  rw [List.drop_eq_nil_of_le (by omega), List.all_nil] at hj2
  rw [hj2, Bool.true_and] at hF
  clear hj2 h2 hj1
  (repeat (refine stg_ ?_))
  refine LoopW.go (α := Nat) (fun j => [(0, .pX f.D), (7, .d (.int .i64 j))]) (fun _ => [.gone]) (fun j => j ≤ f.fJoins.length ∧ R = jnG (pv f.fJoins j) (f.fJoins.drop j)) (fun j => f.fJoins.length - j) 0 covT_ ⟨by omega, hF⟩ (fun j hj => ?_)
  clear hF
  obtain ⟨hj1, hj2⟩ := hj
  (conv => whnf)
  (repeat (refine stg_ ?_))
  (refine br_ (fun h2 => ?_) (fun h2 => ?_) <;> (repeat (refine stg_ ?_)))
  · obtain ⟨x, hx⟩ := at_lt' (xs := f.fJoins) (k := j) (by omega)
    rw [jnG_at hx] at hj2
    rcases Nat.eq_zero_or_pos j with rfl | h0
    · rw [pv_zero, ltJ, Bool.true_and] at hj2
      (repeat' (first | (refine stg_ ?_) | (refine cla_ (l25Join_v x) ?_) | (refine br_ (fun hbr => ?_) (fun hbr => ?_))))
      all_goals first | (exfalso; omega) | ((refine RetOK.d rfl rfl ?_; conv => whnf); simp_all; done) | skip
      all_goals exact NextW.go (0 + 1) covT_ ⟨by omega, by simp_all⟩ (by omega)
    · obtain ⟨p, hp⟩ := at_lt' (xs := f.fJoins) (k := j - 1) (by omega)
      have hp' : (f.fJoins.map TJoin.D)[((j : Int) - 1).toNat]? = some p.D := by
        have : ((j : Int) - 1).toNat = j - 1 := by omega
        rw [this, List.getElem?_map, hp]; rfl
      rw [pv_pos _ h0, hp, ltJ] at hj2
      (repeat' (first | (refine stg_ ?_) | (refine cla_ (l25Join_v x) ?_) | (refine IxW.at (by omega) hp' ?_; (conv => whnf)) | (refine br_ (fun hbr => ?_) (fun hbr => ?_))))
      all_goals first | (exfalso; omega) | ((refine RetOK.d rfl rfl ?_; conv => whnf); simp_all; done) | ((refine RetOK.d rfl rfl ?_; conv => whnf); rw [hj2, show decide (p.fGlyph < x.fGlyph) = false by (rw [decide_eq_false_iff_not]; omega)]; simp; done) | skip
      all_goals exact NextW.go (j + 1) covT_ ⟨by omega, by simp_all⟩ (by omega)
  · (refine RetOK.d rfl rfl ?_; conv => whnf)
    rw [hj2, jnG_end (by omega)]
structure PR (P : Program) (f : FuncId) (n : Nat) (xs : List D) (rest : List V) (m : Nat) (ys : List D) : Prop where
  fn : ∃ fn, P.funcs[f]? = some fn ∧ (fn.name == "runtime.NumGoroutine") = false ∧ fn.body.isNone = false
  len : ys.length = xs.length
  le : m ≤ xs.length
  run : ∀ (w : World) (g : Nat) (t : TypeId) (arr : Array Value) (cap : Nat) (F : List Nat) (args : List Value), w.heap[g]? = some (.cells arr t (0, 0)) → (g :: F).Nodup → (∀ x ∈ F, x < w.heap.size) →
    xs.length ≤ cap → cap ≤ maxLen → cap * n ≤ arr.size → ownDe w arr n xs 0 F → repT w [none] [.gone] rest args →
    Calls P f (.slice (some ⟨g, 0, none⟩) xs.length cap :: args).toArray w fun en w' => ∃ arr' F', en = .returned (.slice (some ⟨g, 0, none⟩) m cap) ∧ Kept w w' (g :: F) (g :: F') ∧
      w'.heap[g]? = some (.cells arr' t (0, 0)) ∧ arr'.size = arr.size ∧ ownDe w' arr' n ys 0 F'
  nil : xs = [] → ∀ (w : World) (a : Option Addr) (cap : Nat) (args : List Value), cap ≤ maxLen → (a = none → cap = 0) → repT w [none] [.gone] rest args →
    Calls P f (.slice a 0 cap :: args).toArray w fun en w' => en = .returned (.slice a 0 cap) ∧ Ext w w'
theorem PR.call {P : Program} {f : FuncId} {n n0 : Nat} {xs ys : List D} {rest : List V} {m : Nat} (pk : PR P f n xs rest m ys) (hn0 : xs ≠ [] → n0 = n) {b len : Nat} {e : Env} {h : List Blk} {K : V → Env → List Blk → Prop}
    (hb : h[b]? = some (.arr n0 xs true)) (hl : len = xs.length) (hb0 : Nat.ble 1 b = true) (hr : plains rest = true) (H : K (.own b 0 m) e (h.set b (.arr n0 ys true))) : CallM P f (.own b 0 len :: rest) e h K where
  fn := pk.fn
  run B X N M a w args R hargs := by
    obtain ⟨c0, args, rfl, h1, h2⟩ := hargs
    have h2' := plains_rep (w' := w) (M' := [none]) (h' := [.gone]) rest args hr h2
    have hb1 : 1 ≤ b := Nat.le_of_ble_eq_true hb0
    subst hl
    obtain ⟨ad, cap, rfl, k1, k2, k3, k4⟩ := rep_own.1 (rep_of_rep1 h1)
    by_cases hx : xs = []
    · have hy : ys = [] := List.eq_nil_of_length_eq_zero (by rw [pk.len, hx]; rfl)
      subst hx
      subst hy
      have hm : m = 0 := by have := pk.le; simpa using this
      subst hm
      refine (pk.nil rfl w ad cap args k2 k3 h2').mono ?_
      rintro en w' ⟨rfl, q2⟩
      rw [show h.set b (.arr n0 [] true) = h from set_self h b _ hb] at H
      have mv := q2.mv (M := M) (h := h) R.inv.hi
      exact ⟨.own b 0 0, _, e, h, M, rfl, H, R.step (R.ext.trans q2) (R.inv.ext q2) mv rfl rfl, rep_mv mv (.own b 0 0) _ trivial (rep_of_rep1 h1)⟩
    · obtain rfl := hn0 hx
      have hn : nOf h b = n0 := by simp [nOf, hb]
      have hc : cap ≠ 0 := fun q => hx (List.eq_nil_of_length_eq_zero (by omega))
      rcases k4 with k4 | ⟨g, F, arr, t, m1, m2, m3, m4⟩
      · exact absurd k4 hc
      · subst m2
        obtain ⟨arr0, t0, r1, r2, r3⟩ : ∃ arr t, w.heap[g]? = some (.cells arr t (0, 0)) ∧ xs.length * n0 ≤ arr.size ∧ (if true = true then ownDe w arr n0 xs 0 F else F = [] ∧ extDe M.O w arr n0 xs 0) := R.inv.blk b _ _ hb m1
        rw [m3] at r1
        cases r1
        rw [if_pos rfl] at r3
        have nd : (g :: F).Nodup := by
          have := mO_nodup R.inv m1
          exact this
        rw [hn, Nat.zero_mul]
        refine (pk.run w g t arr cap F args m3 nd (fun x hx => R.inv.hi x (mem_O m1 (by simp [mO, hx]))) k1 k2 (by rw [Nat.zero_add, hn] at m4; exact m4) r3 h2').mono ?_
        rintro en w' ⟨arr', F', rfl, q2, q3, q4, q5⟩
        have hxB : Ext B w' := by
          have hlo := R.inv.lo b _ _ hb m1 rfl
          refine Below.trans R.ext ⟨q2.os, q2.tape, q2.output, q2.size, fun k hk => q2.ch k (Nat.lt_of_lt_of_le hk R.base) (fun hm => ?_)⟩
          have := hlo k hm
          omega
        have hnf : nOf (h.set b (.arr n0 ys true)) b = n0 := by
          unfold nOf; rw [List.getElem?_set_self (List.getElem?_eq_some_iff.1 hb).1]
        obtain ⟨M', R', hM', _⟩ := R.reset (w' := w') hxB m1 (by omega) hb (.inl rfl) [] [] (by simp) (by simp) (by simp) (by simp) (m' := some (g, F')) q2.nd
          (fun x hx => (q2.sub x hx).imp id (fun q => .inr q)) q2.hi q2.size (fun x hx hxm => q2.ch x hx hxm) (k' := .arr n0 ys true) rfl
          (fun _ g1 F1 e1 => by
            cases e1
            refine ⟨⟨F', rfl⟩, by rw [hnf, hn], fun arr1 t1 hg1 => ?_⟩
            rw [m3] at hg1
            cases hg1
            exact ⟨arr', q3, q4⟩)
          (fun M' h' _ => ⟨arr', t, q3, by
            have : xs.length * n0 ≤ cap * n0 := Nat.mul_le_mul_right n0 k1
            rw [pk.len, q4]; rw [Nat.zero_add, hn] at m4; omega, by rw [if_pos rfl]; exact q5⟩)
        refine ⟨.own b 0 m, _, e, _, M', rfl, H, R', rep_own.2 ⟨_, cap, rfl, Nat.le_trans pk.le k1, k2, by simp, .inr ⟨g, F', arr', t, hM', ?_, q3, ?_⟩⟩⟩
        · rw [Nat.zero_mul]
        · rw [hnf, q4]; rw [hn] at m4; exact m4
theorem CallW.useP {P : Program} {f : FuncId} {n m : Nat} {xs ys : List D} {rest : List V} (pk : PR P f n xs rest m ys) {b len : Nat} {e : Env} {h : List Blk} {K : V → Env → List Blk → Prop}
    (hb : h[b]? = some (.arr n xs true)) (hl : len = xs.length) (hb0 : Nat.ble 1 b = true) (hr : plains rest = true) (H : K (.own b 0 m) e (h.set b (.arr n ys true))) : CallW P false f (.own b 0 len :: rest) e h K :=
  ⟨.inr ⟨rfl, pk.call (fun _ => rfl) hb hl hb0 hr H⟩⟩
theorem clp_ {P : Program} {f : FuncId} {e : Env} {h : List Blk} {K : V → Env → List Blk → Prop} {Q : Prop} {n m b len : Nat} {xs ys : List D} {rest : List V} (pk : PR P f n xs rest m ys) (H : Q) (hb : h[b]? = some (.arr n xs true) := by rfl) (hl : len = xs.length := by (first | rfl | exact (List.length_map _).symm | (simp; done) | omega)) (hb0 : Nat.ble 1 b = true := by rfl)
    (hr : plains rest = true := by rfl) (hk : Q → K (.own b 0 m) e (h.set b (.arr n ys true)) := by (intro H; (conv => whnf); exact H)) : CallW P false f (.own b 0 len :: rest) e h K := CallW.useP pk hb hl hb0 hr (hk H)
theorem own_ints {w : World} {arr : Array Value} : ∀ (zs : List Int) (i : Nat) (F : List Nat), ownDe w arr 1 (zs.map (D.int .i64)) i F → F = [] ∧ ∀ (j : Nat) (z : Int), zs[j]? = some z → arr[i + j]? = some (.int .i64 z) ∧ inR .i64 z
  | [], i, F, h => ⟨h, by simp⟩
  | z :: zs, i, F, h => by
    obtain ⟨F1, F2, ces, rfl, -, h1, ⟨rfl, rfl, hz⟩, h3⟩ := h
    obtain ⟨rfl, ih⟩ := own_ints zs (i + 1) F2 h3
    refine ⟨rfl, fun j y hj => ?_⟩
    cases j with
    | zero =>
      obtain rfl : z = y := by simpa using hj
      have := h1 0 _ rfl
      rw [Nat.mul_one, Nat.add_zero] at this
      exact ⟨this, hz⟩
    | succ j =>
      have := ih j y (by simpa using hj)
      rwa [show i + 1 + j = i + (j + 1) by omega] at this
theorem ints_own {w : World} {arr : Array Value} : ∀ (zs : List Int) (i : Nat), (∀ (j : Nat) (z : Int), zs[j]? = some z → arr[i + j]? = some (.int .i64 z) ∧ inR .i64 z) → ownDe w arr 1 (zs.map (D.int .i64)) i []
  | [], i, _ => rfl
  | z :: zs, i, h => by
    refine ⟨[], [], [.int .i64 z], rfl, rfl, fun j v hj => ?_, ⟨rfl, rfl, (h 0 z rfl).2⟩, ints_own zs (i + 1) fun j y hj => ?_⟩
    · cases j with
      | zero =>
        obtain rfl : Value.int .i64 z = v := by simpa using hj
        have := (h 0 z rfl).1
        rw [Nat.add_zero] at this ⊢; rwa [Nat.mul_one]
      | succ j => simp at hj
    · have := h (j + 1) y (by simpa using hj)
      rwa [show i + (j + 1) = i + 1 + j by omega] at this
theorem holds_ints {w : World} {g : Nat} {arr : Array Value} {t : TypeId} {zs : List Int} {F : List Nat} (hg : w.heap[g]? = some (.cells arr t (0, 0))) (h : ownDe w arr 1 (zs.map (D.int .i64)) 0 F) : Sort.Holds (Value.int .i64) w g 0 zs.toArray := by
  intro j hj
  have hj' : j < zs.length := by simpa using hj
  have := ((own_ints zs 0 F h).2 j zs[j] (List.getElem?_eq_getElem hj')).1
  rw [Nat.zero_add] at this ⊢
  refine ⟨?_, by simp [World.frozen?, hg]⟩
  rw [World.cell?, hg]
  simp [this, hj']
theorem put_kept {w : World} {g : Nat} {arr : Array Value} {t : TypeId} {ys : List Int} (hg : w.heap[g]? = some (.cells arr t (0, 0))) (hl : ys.length ≤ arr.size) (hy : ∀ y ∈ ys, inR .i64 y) (n : Nat) (os : Array Obj) :
    ∃ arr' : Array Value, Kept w (Sort.grow (Sort.putRow (Value.int .i64) (Sort.ahead w n) g 0 ys.toArray) os) [g] [g] ∧ (Sort.grow (Sort.putRow (Value.int .i64) (Sort.ahead w n) g 0 ys.toArray) os).heap[g]? = some (.cells arr' t (0, 0)) ∧ arr'.size = arr.size ∧
      ownDe (Sort.grow (Sort.putRow (Value.int .i64) (Sort.ahead w n) g 0 ys.toArray) os) arr' 1 (ys.map (D.int .i64)) 0 [] := by
  have hlt := lt_of_heap hg
  have hsz : (Sort.putRow (Value.int .i64) (Sort.ahead w n) g 0 ys.toArray).heap.size = w.heap.size := by simp [Sort.putRow, Sort.mapBlock, Sort.ahead]
  have hget : ∀ x, x < w.heap.size → (Sort.grow (Sort.putRow (Value.int .i64) (Sort.ahead w n) g 0 ys.toArray) os).heap[x]? = (Sort.putRow (Value.int .i64) (Sort.ahead w n) g 0 ys.toArray).heap[x]? := fun x hx => by
    show (_ ++ os)[x]? = _
    rw [Array.getElem?_append_left (by rw [hsz]; exact hx)]
  have hme : (Sort.putRow (Value.int .i64) (Sort.ahead w n) g 0 ys.toArray).heap[g]? = some (.cells (Sort.putCells (Value.int .i64) 0 ys.toArray arr) t (0, 0)) := by
    simp [Sort.putRow, Sort.mapBlock, Sort.ahead, Array.getElem?_modify, hg, Sort.onCells]
  refine ⟨Sort.putCells (Value.int .i64) 0 ys.toArray arr, ⟨rfl, rfl, rfl, ?_, fun x hx hm => ?_, by simp, by simp, fun x hx => ?_⟩, by rw [hget g hlt, hme], by simp [Sort.putCells], ints_own ys 0 fun j z hz => ?_⟩
  · show _ ≤ (_ ++ os).size
    rw [Array.size_append, hsz]; omega
  · have hne : x ≠ g := by simpa using hm
    rw [hget x hx]
    simp [Sort.putRow, Sort.mapBlock, Sort.ahead, Array.getElem?_modify, Ne.symm hne]
  · have : x = g := by simpa using hx
    subst this
    show _ < (_ ++ os).size
    rw [Array.size_append, hsz]; omega
  · have hj : j < ys.length := (List.getElem?_eq_some_iff.1 hz).1
    refine ⟨?_, hy z (List.mem_of_getElem? hz)⟩
    have hja : j < arr.size := by omega
    rw [Nat.zero_add]
    have hz' : ys[j] = z := by rw [List.getElem?_eq_getElem hj] at hz; simpa using hz
    simp [Sort.putCells, Array.getElem?_mapIdx, Array.getElem?_eq_getElem hja, hj, hz']
def srt (xs : List Int) : List Int := xs.mergeSort fun x y => decide (x ≤ y)
def cls (xs : List Int) : List Int := Lib.compact (srt xs)
theorem srt_len (xs : List Int) : (srt xs).length = xs.length := List.length_mergeSort xs
theorem srt_mem {xs : List Int} {x : Int} : x ∈ srt xs ↔ x ∈ xs := List.mem_mergeSort
theorem srt_pw (xs : List Int) : (srt xs).Pairwise (fun x y => x ≤ y) := by
  have := List.pairwise_mergeSort (le := fun x y : Int => decide (x ≤ y)) (by intro a b c h1 h2; simp at h1 h2 ⊢; omega) (by intro a b; simp; omega) xs
  exact this.imp (by intro a b h; simpa using h)
theorem cmp_sub (zs : List Int) : List.Sublist (Lib.compact zs) zs := by
  have h1 : List.Sublist (((List.range zs.length).filter (Lib.keeps zs.toArray)).map (zs.toArray[·]!)) ((List.range zs.length).map (zs.toArray[·]!)) := List.Sublist.map _ List.filter_sublist
  have h2 : (List.range zs.length).map (zs.toArray[·]!) = zs := by
    apply List.ext_getElem
    · simp
    · intro i h1 h2; simp [h2]
  rw [h2] at h1
  exact h1
theorem cmp_mem {zs : List Int} : ∀ (j : Nat), j < zs.length → zs.toArray[j]! ∈ Lib.compact zs
  | j, hj => by
    by_cases hk : Lib.keeps zs.toArray j = true
    · exact List.mem_map.2 ⟨j, List.mem_filter.2 ⟨by simpa using hj, hk⟩, rfl⟩
    · have h0 : j ≠ 0 := fun e => hk (Lib.keeps_lt_one _ j (by omega))
      have he : zs.toArray[j]! = zs.toArray[j - 1]! := by
        apply Classical.byContradiction
        intro hne
        exact hk (Lib.keeps_pos hne)
      rw [he]
      exact cmp_mem (j - 1) (by omega)
theorem cls_mem {xs : List Int} {x : Int} : x ∈ cls xs ↔ x ∈ xs := by
  constructor
  · intro h; exact srt_mem.1 ((cmp_sub _).subset h)
  · intro h
    obtain ⟨j, hj, e⟩ := List.getElem_of_mem (srt_mem.2 h)
    have := cmp_mem (zs := srt xs) j hj
    simp only [hj, List.getElem!_toArray, getElem!_pos] at this
    rw [e] at this
    exact this
theorem cls_len (xs : List Int) : (cls xs).length ≤ xs.length := by
  rw [← srt_len xs]; exact (cmp_sub _).length_le
theorem cls_last {xs : List Int} {k : Nat} {z : Int} (hk : k + 1 = (cls xs).length) (hz : (cls xs)[k]? = some z) : ∀ x ∈ xs, x ≤ z := by
  intro x hx
  have hp : (cls xs).Pairwise (fun x y => x ≤ y) := (srt_pw xs).sublist (cmp_sub _)
  obtain ⟨j, hj, e⟩ := List.getElem_of_mem (cls_mem.2 hx)
  have hz' : (cls xs)[k]'(by omega) = z := by rw [List.getElem?_eq_getElem (by omega)] at hz; simpa using hz
  rcases Nat.lt_or_ge j k with h | h
  · have := List.pairwise_iff_getElem.1 hp j k hj (by omega) h
    omega
  · have : j = k := by omega
    subst this
    omega
theorem inR_ints {xs : List Int} {w : World} {arr : Array Value} {F : List Nat} (h : ownDe w arr 1 (xs.map (D.int .i64)) 0 F) : ∀ x ∈ xs, inR .i64 x := fun x hx => by
  obtain ⟨j, hj, e⟩ := List.getElem_of_mem hx
  exact ((own_ints xs 0 F h).2 j x (by rw [List.getElem?_eq_getElem hj, e])).2
theorem grow0 (w : World) : Sort.grow w #[] = w := by simp [Sort.grow]
theorem sort_k (xs : List Int) (hl : xs.length ≤ 1000000) : PK Tryz.prog 203 1 (xs.map (D.int .i64)) [] (.tup []) ((srt xs).map (D.int .i64)) where
  fn := ⟨_, Tryz.func203, rfl, rfl⟩
  len := by simp [srt_len]
  run := by
    intro w g t arr cap F args hg hnd hF hc1 hc2 hc3 ho ha
    cases (show args = [] from ha)
    obtain ⟨rfl, -⟩ := own_ints xs 0 F ho
    rw [List.length_map] at hc1 ⊢
    refine (Tryz.slices_Sort_int g 0 cap xs w (holds_ints hg ho) (lt_of_heap hg) (by omega)).mono ?_
    rintro en w' ⟨rfl, n, os, rfl⟩
    obtain ⟨arr', k1, k2, k3, k4⟩ := put_kept (ys := srt xs) hg (by rw [srt_len]; omega) (fun y hy => inR_ints ho y (srt_mem.1 hy)) n os
    exact ⟨_, arr', [], rfl, ⟨[], rfl, rfl⟩, k1, k2, k3, k4⟩
  nil := by
    intro hx w a cap args h1 h2 ha
    cases (show args = [] from ha)
    refine (Tryz.slices_Sort_int_none a cap w).mono ?_
    rintro en w' ⟨rfl, rfl⟩
    exact ⟨_, rfl, ⟨[], rfl, rfl⟩, Ext.refl _⟩
theorem compact_r (xs : List Int) (hl : xs.length ≤ 1000000) : PR Tryz.prog 204 1 (xs.map (D.int .i64)) [] (Lib.compact xs).length ((Lib.compact xs ++ List.replicate (xs.length - (Lib.compact xs).length) 0).map (D.int .i64)) where
  fn := ⟨_, Tryz.func204, rfl, rfl⟩
  len := by have := (cmp_sub xs).length_le; simp; omega
  le := by have := (cmp_sub xs).length_le; simpa using this
  run := by
    intro w g t arr cap F args hg hnd hF hc1 hc2 hc3 ho ha
    cases (show args = [] from ha)
    obtain ⟨rfl, -⟩ := own_ints xs 0 F ho
    rw [List.length_map] at hc1 ⊢
    have hle := (cmp_sub xs).length_le
    refine (Tryz.slices_Compact_int g 0 cap xs w (holds_ints hg ho) (by omega) hc1).mono ?_
    rintro en w' ⟨rfl, n, rfl⟩
    obtain ⟨arr', k1, k2, k3, k4⟩ := put_kept (ys := Lib.compact xs ++ List.replicate (xs.length - (Lib.compact xs).length) 0) hg (by simp; omega) (fun y hy => by
      rcases List.mem_append.1 hy with hy | hy
      · exact inR_ints ho y ((cmp_sub xs).subset hy)
      · rw [List.eq_of_mem_replicate hy]; exact ⟨by decide, by decide⟩) n #[]
    rw [grow0] at k1 k2 k4
    exact ⟨arr', [], rfl, k1, k2, k3, k4⟩
  nil := by
    intro hx w a cap args h1 h2 ha
    cases (show args = [] from ha)
    refine (Tryz.slices_Compact_int_empty a cap w).mono ?_
    rintro en w' ⟨rfl, rfl⟩
    exact ⟨rfl, Ext.refl _⟩
theorem classOf_v (xs : List Int) (hl : xs.length ≤ 1000000) : PC Tryz.prog 161 [.d (.lst (xs.map (D.int .i64)))] (.own 1 0 (cls xs).length) [.arr 1 ((cls xs ++ List.replicate (xs.length - (cls xs).length) 0).map (D.int .i64)) true] := by
  refine pc_intro ttOk (by kernel_rfl) Tryz.func161 rfl (by kernel_rfl) (by kernel_rfl) (by kernel_rfl) (fun hw => ?_)
  have c1 := cloneI_v xs hl
  have c2 := sort_k xs hl
  have c3 := compact_r (srt xs) (by rw [srt_len]; exact hl)
  rw [srt_len] at c3
  have hL : (xs.map (D.int .i64)).length = xs.length := List.length_map _
  have hL2 : ((srt xs).map (D.int .i64)).length = xs.length := by rw [List.length_map, srt_len]
  (conv => whnf)
  (repeat' (first | (refine stg_ ?_) | (refine cla_ (c1) ?_) | (refine clk_ (c2) ?_) | (refine clp_ (c3) ?_) | (refine br_ (fun hbr => ?_) (fun hbr => ?_))))
  (refine ⟨⟨[some 1], ⟨by decide, rfl, trivial, trivial⟩, by decide, rfl, ?_⟩⟩; (conv => whnf); exact ⟨by decide, rfl⟩)
theorem fmt_len {α β : Type} {m : Nat} {f : α → List β} {xs : List α} (h : ∀ x ∈ xs, (f x).length ≤ m) (k : Nat) : ((xs.take k).flatMap f).length ≤ xs.length * m := by
  have h1 := flatMap_len (m := m) (f := f) (xs.take k) (fun x hx => h x (List.mem_of_mem_take hx))
  have h2 : (xs.take k).length ≤ xs.length := by simp; omega
  exact Nat.le_trans h1 (Nat.mul_le_mul_right m h2)
theorem fmt_succ {α β : Type} {f : α → List β} {xs : List α} {k : Nat} {x : α} (hx : xs[k]? = some x) : (xs.take (k + 1)).flatMap f = (xs.take k).flatMap f ++ f x := by
  rw [take_snoc_get hx, List.flatMap_append]; simp
theorem flt_succ {α : Type} {xs : List (List α)} {k : Nat} {x : List α} (hx : xs[k]? = some x) : (xs.take (k + 1)).flatten = (xs.take k).flatten ++ x := by
  rw [take_snoc_get hx, List.flatten_append]; simp
theorem flt_len {α : Type} {m : Nat} {xs : List (List α)} (h : ∀ x ∈ xs, x.length ≤ m) (k : Nat) : (xs.take k).flatten.length ≤ xs.length * m := by
  have h1 := flatten_len (m := m) (xs.take k) (fun x hx => h x (List.mem_of_mem_take hx))
  have h2 : (xs.take k).length ≤ xs.length := by simp; omega
  exact Nat.le_trans h1 (Nat.mul_le_mul_right m h2)
theorem flr_succ {α : Type} {p : α → Bool} {xs : List α} {k : Nat} {x : α} (hx : xs[k]? = some x) : (xs.take (k + 1)).filter p = (xs.take k).filter p ++ (if p x = true then [x] else []) := by
  rw [take_snoc_get hx, List.filter_append]
  congr 1
  by_cases h : p x = true <;> simp [h]
set_option maxHeartbeats 8000000 in
theorem glyphsUsed_v (f : TFeatures) (hB : ftB f = true) : PC Tryz.prog 108 [.d f.D] (.own 1 0 (cls (usG f)).length) [.arr 1 ((cls (usG f) ++ List.replicate ((usG f).length - (cls (usG f)).length) 0).map (D.int .i64)) true] := by
  refine pc_intro ttOk (by kernel_rfl) Tryz.func108 rfl (by kernel_rfl) (by kernel_rfl) (by kernel_rfl) (fun hw => ?_)
  have F := ftB_F hB
  have hLk : (f.fLookups.map TLookup.D).length = f.fLookups.length := List.length_map _
  have hKn : (f.fKerns.map TKern.D).length = f.fKerns.length := List.length_map _
  have hMk : (f.fMarks.map TMarkRule.D).length = f.fMarks.length := List.length_map _
  have hJn : (f.fJoins.map TJoin.D).length = f.fJoins.length := List.length_map _
  have n1 := F.lkn
  have n2 := F.knn
  have n3 := F.marn
  have n4 := F.jnn
  (conv => whnf)
  refine LoopW.go (α := Nat) (fun k => [(1, .pB 1 [] 0), (3, .own 2 0 (((f.fLookups.take k).flatMap lkGl).map (D.int .i64)).length), (19, .d (.lst (f.fLookups.map TLookup.D))), (20, .d (.int .i64 (f.fLookups.map TLookup.D).length)), (21, .d (.int .i64 k))]) (fun k => [.gone, .box (.d f.D), .arr 1 (((f.fLookups.take k).flatMap lkGl).map (D.int .i64)) true]) (fun k => k ≤ f.fLookups.length) (fun k => f.fLookups.length - k) 0 (Weak.trans (Weak.adopt (k := 3) rfl 1 true) (Weak.cov ⟨rfl, rfl, rfl, rfl, rfl, trivial⟩ ⟨trivial, rfl, rfl, trivial⟩ rfl)) (by omega) (fun k hk => ?_)
  have b1 := fmt_len (m := 19360) (f := lkGl) (xs := f.fLookups) (fun x hx => lkGl_len (F.lk x hx)) k
  have b1' := Nat.mul_le_mul_right 19360 n1
  (conv => whnf)
  (refine br_ (fun h1 => ?_) (fun h1 => ?_) <;> (repeat (refine stg_ ?_)))
  · obtain ⟨l, hl⟩ := at_lt' (xs := f.fLookups) (k := k) (by omega)
    have hlB := F.lk l (List.mem_of_getElem? hl)
    obtain ⟨hrB, hrN⟩ := lkB_ru hlB
    have hRu : (l.fRules.map TRule.D).length = l.fRules.length := List.length_map _
    have e1 := fmt_succ (f := lkGl) hl
    generalize (f.fLookups.take k).flatMap lkGl = O1 at *
    (repeat (refine stg_ ?_))
    refine LoopW.go (α := Nat) (fun j => [(1, .pB 1 [] 0), (3, .own 2 0 ((O1 ++ (l.fRules.take j).flatMap ruGl).map (D.int .i64)).length), (5, .pB 3 [] 0), (19, .d (.lst (f.fLookups.map TLookup.D))), (20, .d (.int .i64 (f.fLookups.map TLookup.D).length)), (21, .d (.int .i64 k)), (26, .d (.lst (l.fRules.map TRule.D))), (27, .d (.int .i64 (l.fRules.map TRule.D).length)), (28, .d (.int .i64 j))]) (fun j => [.gone, .box (.d f.D), .arr 1 ((O1 ++ (l.fRules.take j).flatMap ruGl).map (D.int .i64)) true, .box (.d l.D)]) (fun j => j ≤ l.fRules.length) (fun j => l.fRules.length - j) 0 (Weak.cov ⟨rfl, by (show V.own 2 0 (O1.map (D.int .i64)).length = _; simp), rfl, rfl, rfl, rfl, rfl, rfl, rfl, trivial⟩ ⟨trivial, rfl, by simp, rfl, trivial⟩ rfl) (by omega) (fun j hj => ?_)
    have b2 := fmt_len (m := 484) (f := ruGl) (xs := l.fRules) (fun x hx => ruGl_len (hrB x hx)) j
    have b2' := Nat.mul_le_mul_right 484 hrN
    (conv => whnf)
    (refine br_ (fun h2 => ?_) (fun h2 => ?_) <;> (repeat (refine stg_ ?_)))
    · obtain ⟨r, hr⟩ := at_lt' (xs := l.fRules) (k := j) (by omega)
      obtain ⟨q1, q2, q3, q4, -⟩ := ruB_fcs (hrB r (List.mem_of_getElem? hr))
      have e2 := fmt_succ (f := ruGl) hr
      have e3 : ruGl r = (r.fBefore ++ r.fInput ++ r.fAfter).flatten ++ r.fOutput := rfl
      have e4 : [r.fBefore, r.fInput, r.fAfter].flatten = r.fBefore ++ r.fInput ++ r.fAfter := by simp
      have e5 : lenS [r.fBefore, r.fInput, r.fAfter] = (r.fBefore ++ r.fInput ++ r.fAfter).length := by simp [lenS]
      have c1 := catL_v [r.fBefore, r.fInput, r.fAfter] (by omega)
      rw [e4, e5] at c1
      have b3 := fun i => flt_len (m := 40) (xs := r.fBefore ++ r.fInput ++ r.fAfter) (fun c hc => fcB_len (q1 c hc)) i
      generalize r.fBefore ++ r.fInput ++ r.fAfter = cs at *
      have hCs : (cs.map (lstD (D.int .i64))).length = cs.length := List.length_map _
      have hO : (O1 ++ (l.fRules.take j).flatMap ruGl).length ≤ 154880 + 19360 := by rw [List.length_append]; omega
      generalize hO2 : O1 ++ (l.fRules.take j).flatMap ruGl = O2 at *
      (repeat' (first | (refine stg_ ?_) | (refine clg_ (c1) ?_) | (refine br_ (fun hbr => ?_) (fun hbr => ?_))))
      refine LoopW.go (α := Nat) (fun i => [(1, .pB 1 [] 0), (3, .own 2 0 ((O2 ++ (cs.take i).flatten).map (D.int .i64)).length), (5, .pB 3 [] 0), (7, .pB 4 [] 0), (19, .d (.lst (f.fLookups.map TLookup.D))), (20, .d (.int .i64 (f.fLookups.map TLookup.D).length)), (21, .d (.int .i64 k)), (26, .d (.lst (l.fRules.map TRule.D))), (27, .d (.int .i64 (l.fRules.map TRule.D).length)), (28, .d (.int .i64 j)), (39, .own 6 0 cs.length), (40, .d (.int .i64 cs.length)), (41, .d (.int .i64 i))]) (fun i => [.gone, .box (.d f.D), .arr 1 ((O2 ++ (cs.take i).flatten).map (D.int .i64)) true, .box (.d l.D), .box (.d r.D), .arr 1 [] true, .arr 1 (cs.map (lstD (D.int .i64))) false]) (fun i => i ≤ cs.length) (fun i => cs.length - i) 0 (Weak.cov ⟨rfl, by (show V.own 2 0 (O2.map (D.int .i64)).length = _; simp), rfl, rfl, rfl, rfl, rfl, rfl, rfl, rfl, rfl, rfl, rfl, trivial⟩ ⟨trivial, rfl, by simp, rfl, rfl, rfl, rfl, trivial⟩ rfl) (by omega) (fun i hi => ?_)
      have b3 := b3 i
      have b3' := Nat.mul_le_mul_right 40 q2
      (conv => whnf)
      (refine br_ (fun h3 => ?_) (fun h3 => ?_) <;> (repeat (refine stg_ ?_)))
      · obtain ⟨c, hc⟩ := at_lt' (xs := cs) (k := i) (by omega)
        have hc' : (cs.map (lstD (D.int .i64)))[i]? = some (lstD (D.int .i64) c) := by rw [List.getElem?_map, hc]; rfl
        have hcl := fcB_len (q1 c (List.mem_of_getElem? hc))
        have e6 : (O2 ++ (cs.take (i + 1)).flatten).map (D.int .i64) = (O2 ++ (cs.take i).flatten).map (D.int .i64) ++ c.map (D.int .i64) := by rw [flt_succ hc, ← List.append_assoc, List.map_append]
        have hO3 : (O2 ++ (cs.take i).flatten).length ≤ 154880 + 19360 + 480 := by rw [List.length_append]; omega
        generalize (O2 ++ (cs.take i).flatten) = O3 at *
        (repeat' (first | (refine stg_ ?_) | fail | (refine br_ (fun hbr => ?_) (fun hbr => ?_))))
        refine NextW.go (i + 1) (Weak.cov ⟨rfl, ?_, rfl, rfl, rfl, rfl, rfl, rfl, rfl, rfl, rfl, rfl, rfl, trivial⟩ ⟨trivial, rfl, ?_, rfl, rfl, rfl, rfl, trivial⟩ rfl) (by omega) (by omega)
        · rw [e6]; simp only [List.length_append]; rfl
        · rw [e6, List.take_length]
      · obtain rfl : i = cs.length := by omega
        rw [List.take_length] at *
        have hO3 : (O2 ++ cs.flatten).length ≤ 154880 + 19360 + 480 := by rw [List.length_append]; omega
        have e7 : (O1 ++ (l.fRules.take (j + 1)).flatMap ruGl).map (D.int .i64) = (O2 ++ cs.flatten).map (D.int .i64) ++ r.fOutput.map (D.int .i64) := by
          rw [e2, ← List.append_assoc, hO2, e3, ← List.append_assoc, List.map_append]
        generalize O2 ++ cs.flatten = O3 at *
        (repeat' (first | (refine stg_ ?_) | fail | (refine br_ (fun hbr => ?_) (fun hbr => ?_))))
        refine NextW.go (j + 1) (Weak.cov ⟨rfl, ?_, rfl, rfl, rfl, rfl, rfl, rfl, rfl, trivial⟩ ⟨trivial, rfl, ?_, rfl, trivial⟩ rfl) (by omega) (by omega)
        · rw [e7]; simp only [List.length_append]; rfl
        · rw [e7, List.take_length]
    · obtain rfl : j = l.fRules.length := by omega
      rw [List.take_length] at *
      have e8 : ((f.fLookups.take (k + 1)).flatMap lkGl).map (D.int .i64) = (O1 ++ l.fRules.flatMap ruGl).map (D.int .i64) := by rw [e1]; rfl
      (repeat' (first | (refine stg_ ?_) | fail | (refine br_ (fun hbr => ?_) (fun hbr => ?_))))
      refine NextW.go (k + 1) (Weak.cov ⟨rfl, ?_, rfl, rfl, rfl, trivial⟩ ⟨trivial, rfl, ?_, trivial⟩ rfl) (by omega) (by omega)
      · rw [e8]; rfl
      · rw [e8]
  · obtain rfl : k = f.fLookups.length := by omega
    rw [List.take_length] at *
    have hU1 : (f.fLookups.flatMap lkGl).length ≤ 154880 := by omega
    have hUs : usG f = f.fLookups.flatMap lkGl ++ f.fKerns.flatMap knGl ++ f.fMarks.flatMap mkGl ++ f.fJoins.flatMap jnGl := rfl
    generalize f.fLookups.flatMap lkGl = U1 at *
    clear b1 b1' h1 hk
    (repeat (refine stg_ ?_))
    refine LoopW.go (α := Nat) (fun k => [(1, .pB 1 [] 0), (3, .own 2 0 ((U1 ++ (f.fKerns.take k).flatMap knGl).map (D.int .i64)).length), (56, .d (.lst (f.fKerns.map TKern.D))), (57, .d (.int .i64 (f.fKerns.map TKern.D).length)), (58, .d (.int .i64 k))]) (fun k => [.gone, .box (.d f.D), .arr 1 ((U1 ++ (f.fKerns.take k).flatMap knGl).map (D.int .i64)) true]) (fun k => k ≤ f.fKerns.length) (fun k => f.fKerns.length - k) 0 (Weak.cov ⟨rfl, by (show V.own 2 0 (U1.map (D.int .i64)).length = _; simp), rfl, rfl, rfl, trivial⟩ ⟨trivial, rfl, by simp, trivial⟩ rfl) (by omega) (fun k hk => ?_)
    have b4 := fmt_len (m := 80) (f := knGl) (xs := f.fKerns) (fun x hx => by
      obtain ⟨h1, h2⟩ := knB_l (F.kn x hx)
      have := fcB_len h1
      have := fcB_len h2
      rw [knGl, List.length_append]; omega) k
    have b4' := Nat.mul_le_mul_right 80 n2
    (conv => whnf)
    (refine br_ (fun h1 => ?_) (fun h1 => ?_) <;> (repeat (refine stg_ ?_)))
    · obtain ⟨x, hx⟩ := at_lt' (xs := f.fKerns) (k := k) (by omega)
      obtain ⟨p1, p2⟩ := knB_l (F.kn x (List.mem_of_getElem? hx))
      have p1 := fcB_len p1
      have p2 := fcB_len p2
      have hO : (U1 ++ (f.fKerns.take k).flatMap knGl).length ≤ 160000 := by rw [List.length_append]; omega
      have e1 : U1 ++ (f.fKerns.take (k + 1)).flatMap knGl = (U1 ++ (f.fKerns.take k).flatMap knGl) ++ knGl x := by rw [fmt_succ hx, List.append_assoc]
      generalize (U1 ++ (f.fKerns.take k).flatMap knGl) = O at *
      have e4 : [O, x.fLeft, x.fRight].flatten = O ++ knGl x := by simp [knGl]
      have e5 : lenS [O, x.fLeft, x.fRight] = ((O ++ knGl x).map (D.int .i64)).length := by simp [lenS, knGl]
      have c1 := catI_v [O, x.fLeft, x.fRight] (by simp only [lenS]; omega)
      rw [e4, e5] at c1
      (repeat (refine stg_ ?_))
      (refine cla_ (c1) ?_ (hb := ⟨_, _, rfl, ⟨_, rfl, rfl, rfl, _, rfl, ⟨_, _, rfl, ⟨by simp, by (show _ = D.lst (List.take _ (List.drop 0 _)); rw [List.drop_zero, List.take_of_length_le (by simp)])⟩, ⟨_, _, rfl, ⟨rfl, rfl⟩, ⟨_, _, rfl, ⟨rfl, rfl⟩, rfl⟩⟩⟩⟩, rfl⟩))
      (repeat (refine stg_ ?_))
      refine NextW.go (k + 1) (Weak.trans (Weak.swap 2 5 rfl) (Weak.cov ⟨rfl, ?_, rfl, rfl, rfl, trivial⟩ ⟨trivial, rfl, ?_, trivial⟩ rfl)) (by omega) (by omega)
      · rw [e1]; rfl
      · rw [e1]; rfl
    · obtain rfl : k = f.fKerns.length := by omega
      rw [List.take_length] at *
      have hU2 : (U1 ++ f.fKerns.flatMap knGl).length ≤ 160000 := by rw [List.length_append]; omega
      generalize U1 ++ f.fKerns.flatMap knGl = U2 at *
      clear b4 b4' h1 hk hU1
      (repeat (refine stg_ ?_))
      refine LoopW.go (α := Nat) (fun k => [(1, .pB 1 [] 0), (3, .own 2 0 ((U2 ++ (f.fMarks.take k).flatMap mkGl).map (D.int .i64)).length), (71, .d (.lst (f.fMarks.map TMarkRule.D))), (72, .d (.int .i64 (f.fMarks.map TMarkRule.D).length)), (73, .d (.int .i64 k))]) (fun k => [.gone, .box (.d f.D), .arr 1 ((U2 ++ (f.fMarks.take k).flatMap mkGl).map (D.int .i64)) true]) (fun k => k ≤ f.fMarks.length) (fun k => f.fMarks.length - k) 0 (Weak.cov ⟨rfl, by (show V.own 2 0 (U2.map (D.int .i64)).length = _; simp), rfl, rfl, rfl, trivial⟩ ⟨trivial, rfl, by simp, trivial⟩ rfl) (by omega) (fun k hk => ?_)
      have b4 := fmt_len (m := 80) (f := mkGl) (xs := f.fMarks) (fun x hx => by
        obtain ⟨h1, h2⟩ := mkB_l (F.mar x hx)
        have := fcB_len h1
        have := fcB_len h2
        rw [mkGl, List.length_append]; omega) k
      have b4' := Nat.mul_le_mul_right 80 n3
      (conv => whnf)
      (refine br_ (fun h1 => ?_) (fun h1 => ?_) <;> (repeat (refine stg_ ?_)))
      · obtain ⟨x, hx⟩ := at_lt' (xs := f.fMarks) (k := k) (by omega)
        obtain ⟨p1, p2⟩ := mkB_l (F.mar x (List.mem_of_getElem? hx))
        have p1 := fcB_len p1
        have p2 := fcB_len p2
        have hO : (U2 ++ (f.fMarks.take k).flatMap mkGl).length ≤ 170000 := by rw [List.length_append]; omega
        have e1 : U2 ++ (f.fMarks.take (k + 1)).flatMap mkGl = (U2 ++ (f.fMarks.take k).flatMap mkGl) ++ mkGl x := by rw [fmt_succ hx, List.append_assoc]
        generalize (U2 ++ (f.fMarks.take k).flatMap mkGl) = O at *
        have e4 : [O, x.fMarks, x.fBases].flatten = O ++ mkGl x := by simp [mkGl]
        have e5 : lenS [O, x.fMarks, x.fBases] = ((O ++ mkGl x).map (D.int .i64)).length := by simp [lenS, mkGl]
        have c1 := catI_v [O, x.fMarks, x.fBases] (by simp only [lenS]; omega)
        rw [e4, e5] at c1
        (repeat (refine stg_ ?_))
        (refine cla_ (c1) ?_ (hb := ⟨_, _, rfl, ⟨_, rfl, rfl, rfl, _, rfl, ⟨_, _, rfl, ⟨by simp, by (show _ = D.lst (List.take _ (List.drop 0 _)); rw [List.drop_zero, List.take_of_length_le (by simp)])⟩, ⟨_, _, rfl, ⟨rfl, rfl⟩, ⟨_, _, rfl, ⟨rfl, rfl⟩, rfl⟩⟩⟩⟩, rfl⟩))
        (repeat (refine stg_ ?_))
        refine NextW.go (k + 1) (Weak.trans (Weak.swap 2 5 rfl) (Weak.cov ⟨rfl, ?_, rfl, rfl, rfl, trivial⟩ ⟨trivial, rfl, ?_, trivial⟩ rfl)) (by omega) (by omega)
        · rw [e1]; rfl
        · rw [e1]; rfl
      · obtain rfl : k = f.fMarks.length := by omega
        rw [List.take_length] at *
        have hU3 : (U2 ++ f.fMarks.flatMap mkGl).length ≤ 170000 := by rw [List.length_append]; omega
        generalize U2 ++ f.fMarks.flatMap mkGl = U3 at *
        clear b4 b4' h1 hk hU2
        (repeat (refine stg_ ?_))
        refine LoopW.go (α := Nat) (fun k => [(1, .pB 1 [] 0), (3, .own 2 0 ((U3 ++ (f.fJoins.take k).flatMap jnGl).map (D.int .i64)).length), (86, .d (.lst (f.fJoins.map TJoin.D))), (87, .d (.int .i64 (f.fJoins.map TJoin.D).length)), (88, .d (.int .i64 k))]) (fun k => [.gone, .box (.d f.D), .arr 1 ((U3 ++ (f.fJoins.take k).flatMap jnGl).map (D.int .i64)) true]) (fun k => k ≤ f.fJoins.length) (fun k => f.fJoins.length - k) 0 (Weak.cov ⟨rfl, by (show V.own 2 0 (U3.map (D.int .i64)).length = _; simp), rfl, rfl, rfl, trivial⟩ ⟨trivial, rfl, by simp, trivial⟩ rfl) (by omega) (fun k hk => ?_)
        have b4 := fmt_len (m := 4) (f := jnGl) (xs := f.fJoins) (fun x _ => jnGl_len x) k
        have b4' := Nat.mul_le_mul_right 4 n4
        (conv => whnf)
        (refine br_ (fun h1 => ?_) (fun h1 => ?_) <;> (repeat (refine stg_ ?_)))
        · obtain ⟨x, hx⟩ := at_lt' (xs := f.fJoins) (k := k) (by omega)
          have hO : (U3 ++ (f.fJoins.take k).flatMap jnGl).length ≤ 180000 := by rw [List.length_append]; omega
          have e1 : U3 ++ (f.fJoins.take (k + 1)).flatMap jnGl = (U3 ++ (f.fJoins.take k).flatMap jnGl) ++ [x.fGlyph] ++ [x.fInit, x.fMedi, x.fFina].filter (fun g => decide (0 ≤ g)) := by rw [fmt_succ hx, ← List.append_assoc, jnGl, List.append_assoc _ [x.fGlyph]]; rfl
          generalize (U3 ++ (f.fJoins.take k).flatMap jnGl) = O at *
          have hOm : ((O ++ [x.fGlyph]).map (D.int .i64)).length = O.length + 1 := by simp
          have hO1 : (O ++ [x.fGlyph]).length ≤ 180001 := by simp; omega
          (repeat (refine stg_ ?_))
          refine LoopW.go (α := Nat) (fun m => [(1, .pB 1 [] 0), (3, .own 2 0 ((O ++ [x.fGlyph] ++ ([x.fInit, x.fMedi, x.fFina].take m).filter (fun g => decide (0 ≤ g))).map (D.int .i64)).length), (86, .d (.lst (f.fJoins.map TJoin.D))), (87, .d (.int .i64 (f.fJoins.map TJoin.D).length)), (88, .d (.int .i64 k)), (103, .own 5 0 3), (104, .d (.int .i64 3)), (105, .d (.int .i64 m))]) (fun m => [.gone, .box (.d f.D), .arr 1 ((O ++ [x.fGlyph] ++ ([x.fInit, x.fMedi, x.fFina].take m).filter (fun g => decide (0 ≤ g))).map (D.int .i64)) true, .box (.d x.D), .gone, .arr 1 ([x.fInit, x.fMedi, x.fFina].map (D.int .i64)) true]) (fun m => m ≤ 3) (fun m => 3 - m) 0 (Weak.cov ⟨rfl, ?_, rfl, rfl, rfl, rfl, rfl, rfl, trivial⟩ ⟨trivial, rfl, ?_, rfl, trivial, rfl, trivial⟩ rfl) (by omega) (fun m hm => ?_)
          · show V.own 2 0 ((O.map (D.int .i64)).length + 1) = V.own 2 0 ((O ++ [x.fGlyph] ++ []).map (D.int .i64)).length
            simp
          · show Blk.arr 1 ((O.map (D.int .i64)).take (O.map (D.int .i64)).length ++ [D.int .i64 x.fGlyph]) true = Blk.arr 1 ((O ++ [x.fGlyph] ++ []).map (D.int .i64)) true
            rw [List.take_length]; simp
          have b5 := List.length_filter_le (fun g => decide ((0 : Int) ≤ g)) ([x.fInit, x.fMedi, x.fFina].take m)
          have hT : [x.fInit, x.fMedi, x.fFina].length = 3 := rfl
          have e1' : ([x.fInit, x.fMedi, x.fFina].take 3) = [x.fInit, x.fMedi, x.fFina] := rfl
          rw [← e1'] at e1
          generalize [x.fInit, x.fMedi, x.fFina] = T at *
          have b5' : (T.take m).length ≤ 3 := by simp; omega
          have hT' : (T.map (D.int .i64)).length = T.length := List.length_map _
          have hO2 : (O ++ [x.fGlyph] ++ (T.take m).filter (fun g => decide (0 ≤ g))).length ≤ 180010 := by rw [List.length_append]; omega
          (conv => whnf)
          (refine br_ (fun h3 => ?_) (fun h3 => ?_) <;> (repeat (refine stg_ ?_)))
          · obtain ⟨y, hy⟩ := at_lt' (xs := T) (k := m) (by omega)
            have hy' : (T.map (D.int .i64))[m]? = some (.int .i64 y) := by rw [List.getElem?_map, hy]; rfl
            have e2 := flr_succ (p := fun g => decide ((0 : Int) ≤ g)) hy
            have e3 : O ++ [x.fGlyph] ++ (T.take (m + 1)).filter (fun g => decide (0 ≤ g)) = O ++ [x.fGlyph] ++ (T.take m).filter (fun g => decide (0 ≤ g)) ++ (if decide (0 ≤ y) = true then [y] else []) := by rw [e2, List.append_assoc, List.append_assoc, List.append_assoc]
            generalize O ++ [x.fGlyph] ++ (T.take m).filter (fun g => decide (0 ≤ g)) = O3 at *
            (repeat' (first | (refine stg_ ?_) | fail | (refine br_ (fun hbr => ?_) (fun hbr => ?_))))
            · rw [if_pos (by simp; omega)] at e3
              refine NextW.go (m + 1) (Weak.cov ⟨rfl, ?_, rfl, rfl, rfl, rfl, rfl, rfl, trivial⟩ ⟨trivial, rfl, ?_, rfl, trivial, rfl, trivial⟩ rfl) (by omega) (by omega)
              · rw [e3]
                show V.own 2 0 ((O3.map (D.int .i64)).length + 1) = _
                simp
              · rw [e3]
                show Blk.arr 1 ((O3.map (D.int .i64)).take (O3.map (D.int .i64)).length ++ [D.int .i64 y]) true = _
                rw [List.take_length]; simp
            · rw [if_neg (by simp; omega), List.append_nil] at e3
              refine NextW.go (m + 1) (Weak.cov ⟨rfl, ?_, rfl, rfl, rfl, rfl, rfl, rfl, trivial⟩ ⟨trivial, rfl, ?_, rfl, trivial, rfl, trivial⟩ rfl) (by omega) (by omega)
              · rw [e3]; rfl
              · rw [e3]
          · obtain rfl : m = 3 := by omega
            rw [← e1] at *
            (repeat (refine stg_ ?_))
            refine NextW.go (k + 1) (Weak.cov ⟨rfl, rfl, rfl, rfl, rfl, trivial⟩ ⟨trivial, rfl, rfl, trivial⟩ rfl) (by omega) (by omega)
        · obtain rfl : k = f.fJoins.length := by omega
          rw [List.take_length] at *
          have hU4 : (U3 ++ f.fJoins.flatMap jnGl).length ≤ 180000 := by rw [List.length_append]; omega
          rw [← hUs] at *
          have c1 := classOf_v (usG f) (by omega)
          (repeat' (first | (refine stg_ ?_) | (refine cla_ (c1) ?_) | (refine br_ (fun hbr => ?_) (fun hbr => ?_))))
          (refine ⟨⟨[some 3], ⟨by decide, rfl, trivial, trivial⟩, by decide, rfl, ?_⟩⟩; (conv => whnf); exact ⟨by decide, rfl⟩)
def vfB (f : TFeatures) (g : Int) : Bool := ftB f && (usG f).all fun x => decide (x < g)
theorem vfB_40 (f : TFeatures) : vfB f 40 = ftB f := by
  unfold vfB
  cases h : ftB f with
  | false => rfl
  | true => rw [usG_all h]; rfl
theorem usG_len {f : TFeatures} (h : ftB f = true) : (usG f).length ≤ 200000 := by
  have F := ftB_F h
  have h1 := flatMap_len (m := 19360) (f := lkGl) f.fLookups (fun x hx => lkGl_len (F.lk x hx))
  have h2 := flatMap_len (m := 80) (f := knGl) f.fKerns (fun x hx => by
    obtain ⟨h1, h2⟩ := knB_l (F.kn x hx)
    have := fcB_len h1
    have := fcB_len h2
    rw [knGl, List.length_append]; omega)
  have h3 := flatMap_len (m := 80) (f := mkGl) f.fMarks (fun x hx => by
    obtain ⟨h1, h2⟩ := mkB_l (F.mar x hx)
    have := fcB_len h1
    have := fcB_len h2
    rw [mkGl, List.length_append]; omega)
  have h4 := flatMap_len (m := 4) (f := jnGl) f.fJoins (fun x _ => jnGl_len x)
  have n1 := F.lkn
  have n2 := F.knn
  have n3 := F.marn
  have n4 := F.jnn
  rw [usG, List.length_append, List.length_append, List.length_append]
  omega
set_option maxHeartbeats 8000000 in
theorem ValidFeatures_v (f : TFeatures) (g : Int) : PC Tryz.prog 52 [.d f.D, .d (.int .i64 g)] (.d (.bool (vfB f g))) [] := by
  refine pc_intro ttOk (by kernel_rfl) Tryz.func52 rfl (by kernel_rfl) (by kernel_rfl) (by kernel_rfl) (fun hw => ?_)
  have hLk : (f.fLookups.map TLookup.D).length = f.fLookups.length := List.length_map _
  have hK : (f.fKerns.map TKern.D).length = f.fKerns.length := List.length_map _
  have hM : (f.fMarks.map TMarkRule.D).length = f.fMarks.length := List.length_map _
  have hJ : (f.fJoins.map TJoin.D).length = f.fJoins.length := List.length_map _
  have hJm : (f.fJoins.map TJoin.D).length ≤ 9223372036854775807 := hw.1.2.2.2.1.1
  have hF : ftB f = (lksB f.fLookups && (decide (f.fKerns.length ≤ 40) && (decide (f.fMarks.length ≤ 12) && (f.fKerns.all knB && (f.fMarks.all mkB && jnG none f.fJoins))))) := rfl
  have hG := fun h => glyphsUsed_v f h
  have hV : vfB f g = (ftB f && (usG f).all fun x => decide (x < g)) := rfl
  generalize vfB f g = R at hV ⊢
  generalize hFB : ftB f = FB at *
  (conv => whnf)
  (repeat' (first | (refine stg_ ?_) | fail | (refine br_ (fun hbr => ?_) (fun hbr => ?_))))
  all_goals first | ((refine RetOK.d rfl rfl ?_; conv => whnf); rw [hV, hF, lksB, show decide (f.fLookups.length ≤ 8) = false by (rw [decide_eq_false_iff_not]; omega)]; simp; done) | ((refine RetOK.d rfl rfl ?_; conv => whnf); rw [hV, hF, show decide (f.fKerns.length ≤ 40) = false by (rw [decide_eq_false_iff_not]; omega)]; simp; done) | ((refine RetOK.d rfl rfl ?_; conv => whnf); rw [hV, hF, show decide (f.fMarks.length ≤ 12) = false by (rw [decide_eq_false_iff_not]; omega)]; simp; done) | skip
  have hl8 : f.fLookups.length ≤ 8 := by omega
  have hk40 : f.fKerns.length ≤ 40 := by omega
  have hm12 : f.fMarks.length ≤ 12 := by omega
  rw [lksB, decide_eq_true hl8, decide_eq_true hk40, decide_eq_true hm12, Bool.true_and, Bool.true_and, Bool.true_and] at hF
  refine LoopW.go (α := Nat) (fun k => [(1, .d (.int .i64 g)), (2, .pB 1 [] 0), (31, .d (.lst (f.fLookups.map TLookup.D))), (32, .d (.int .i64 (f.fLookups.map TLookup.D).length)), (33, .d (.int .i64 k))]) (fun _ => [.gone, .box (.d f.D)]) (fun k => k ≤ f.fLookups.length ∧ lkG [] f.fLookups = lkG (f.fLookups.take k) (f.fLookups.drop k)) (fun k => f.fLookups.length - k) 0 covT_ ⟨by omega, rfl⟩ (fun k hk => ?_)
  obtain ⟨hk1, hk2⟩ := hk
  (conv => whnf)
  (refine br_ (fun h1 => ?_) (fun h1 => ?_) <;> (repeat (refine stg_ ?_)))
  · obtain ⟨l, hl⟩ := at_lt' (xs := f.fLookups) (k := k) (by omega)
    rw [lkG_at hl] at hk2
    have c1 := validLookup_v l
    have c2 := lookupNamed_v (f.fLookups.take k) l.fName
    have hsl : (f.fLookups.take k).map TLookup.D = ((f.fLookups.map TLookup.D).drop 0).take ((k : Int).toNat - 0) := by simp [List.map_take]
    rw [hsl] at c2
    have hq := fdx_any (nmEq l.fName) (f.fLookups.take k) 0
    rw [← hq] at hk2
    generalize fdx (nmEq l.fName) (f.fLookups.take k) 0 = q at *
    (repeat' (first | (refine stg_ ?_) | (refine cla_ (c1) ?_) | (refine cla_ (c2) ?_) | (refine br_ (fun hbr => ?_) (fun hbr => ?_))))
    all_goals first | (exfalso; omega) | ((refine RetOK.d rfl rfl ?_; conv => whnf); rw [hV, hF, hk2]; simp_all; done) | ((refine RetOK.d rfl rfl ?_; conv => whnf); rw [hV, hF, hk2, show decide (0 ≤ q) = true by (rw [decide_eq_true_eq]; omega)]; simp; done) | skip
    all_goals exact NextW.go (k + 1) covT_ ⟨by omega, by rw [hk2, show decide (0 ≤ q) = false by (rw [decide_eq_false_iff_not]; omega)]; simp_all⟩ (by omega)
  rw [hk2, lkG_end (by omega), Bool.true_and] at hF
  clear hk2 h1 hk1
  (repeat (refine stg_ ?_))
  refine LoopW.go (α := Nat) (fun k => [(1, .d (.int .i64 g)), (2, .pB 1 [] 0), (53, .d (.lst (f.fKerns.map TKern.D))), (54, .d (.int .i64 (f.fKerns.map TKern.D).length)), (55, .d (.int .i64 k))]) (fun _ => [.gone, .box (.d f.D)]) (fun k => k ≤ f.fKerns.length ∧ f.fKerns.all knB = (f.fKerns.drop k).all knB) (fun k => f.fKerns.length - k) 0 covT_ ⟨by omega, rfl⟩ (fun k hk => ?_)
  obtain ⟨hk1, hk2⟩ := hk
  (conv => whnf)
  (refine br_ (fun h1 => ?_) (fun h1 => ?_) <;> (repeat (refine stg_ ?_)))
  · obtain ⟨x, hx⟩ := at_lt' (xs := f.fKerns) (k := k) (by omega)
    rw [drop_at hx, List.all_cons] at hk2
    (repeat' (first | (refine stg_ ?_) | (refine cla_ (fullClass_v x.fLeft) ?_) | (refine cla_ (fullClass_v x.fRight) ?_) | (refine br_ (fun hbr => ?_) (fun hbr => ?_))))
    all_goals first | ((refine RetOK.d rfl rfl ?_; conv => whnf); rw [hV, hF, hk2, knB, inB]; simp_all; done) | ((refine RetOK.d rfl rfl ?_; conv => whnf); rw [hV, hF, hk2, knB, show inB x.fValue (-262144) 262144 = false by (rw [inB, Bool.and_eq_false_iff, decide_eq_false_iff_not, decide_eq_false_iff_not]; omega)]; simp; done) | skip
    all_goals exact NextW.go (k + 1) covT_ ⟨by omega, by rw [hk2, knB, show inB x.fValue (-262144) 262144 = true by (rw [inB, Bool.and_eq_true, decide_eq_true_eq, decide_eq_true_eq]; omega)]; simp_all⟩ (by omega)
  rw [hk2, List.drop_eq_nil_of_le (by omega), List.all_nil, Bool.true_and] at hF
  clear hk2 h1 hk1
  (repeat (refine stg_ ?_))
  refine LoopW.go (α := Nat) (fun k => [(1, .d (.int .i64 g)), (2, .pB 1 [] 0), (81, .d (.lst (f.fMarks.map TMarkRule.D))), (82, .d (.int .i64 (f.fMarks.map TMarkRule.D).length)), (83, .d (.int .i64 k))]) (fun _ => [.gone, .box (.d f.D)]) (fun k => k ≤ f.fMarks.length ∧ f.fMarks.all mkB = (f.fMarks.drop k).all mkB) (fun k => f.fMarks.length - k) 0 covT_ ⟨by omega, rfl⟩ (fun k hk => ?_)
  obtain ⟨hk1, hk2⟩ := hk
  (conv => whnf)
  (refine br_ (fun h1 => ?_) (fun h1 => ?_) <;> (repeat (refine stg_ ?_)))
  · obtain ⟨x, hx⟩ := at_lt' (xs := f.fMarks) (k := k) (by omega)
    rw [drop_at hx, List.all_cons] at hk2
    (repeat' (first | (refine stg_ ?_) | (refine cla_ (fullClass_v x.fMarks) ?_) | (refine cla_ (fullClass_v x.fBases) ?_) | (refine cla_ (IsName_v x.fAnchor) ?_) | (refine br_ (fun hbr => ?_) (fun hbr => ?_))))
    all_goals first | ((refine RetOK.d rfl rfl ?_; conv => whnf); rw [hV, hF, hk2, mkB]; simp_all; done) | skip
    all_goals exact NextW.go (k + 1) covT_ ⟨by omega, by rw [hk2, mkB]; simp_all⟩ (by omega)
  rw [hk2, List.drop_eq_nil_of_le (by omega), List.all_nil, Bool.true_and] at hF
  clear hk2 h1 hk1
  (repeat (refine stg_ ?_))
  refine LoopW.go (α := Nat) (fun j => [(1, .d (.int .i64 g)), (2, .pB 1 [] 0), (105, .d (.lst (f.fJoins.map TJoin.D))), (106, .d (.int .i64 (f.fJoins.map TJoin.D).length)), (107, .d (.int .i64 j))]) (fun _ => [.gone, .box (.d f.D)]) (fun j => j ≤ f.fJoins.length ∧ FB = jnG (pv f.fJoins j) (f.fJoins.drop j)) (fun j => f.fJoins.length - j) 0 covT_ ⟨by omega, hF⟩ (fun j hj => ?_)
  clear hF
  obtain ⟨hj1, hj2⟩ := hj
  (conv => whnf)
  (refine br_ (fun h2 => ?_) (fun h2 => ?_) <;> (repeat (refine stg_ ?_)))
  · obtain ⟨x, hx⟩ := at_lt' (xs := f.fJoins) (k := j) (by omega)
    rw [jnG_at hx] at hj2
    rcases Nat.eq_zero_or_pos j with rfl | h0
    · rw [pv_zero, ltJ, Bool.true_and] at hj2
      (repeat' (first | (refine stg_ ?_) | (refine cla_ (validJoin_v x) ?_) | (refine br_ (fun hbr => ?_) (fun hbr => ?_))))
      all_goals first | (exfalso; omega) | ((refine RetOK.d rfl rfl ?_; conv => whnf); rw [hV, hj2]; simp_all; done) | skip
      all_goals exact NextW.go (0 + 1) covT_ ⟨by omega, by rw [hj2]; simp_all⟩ (by omega)
    · obtain ⟨p, hp⟩ := at_lt' (xs := f.fJoins) (k := j - 1) (by omega)
      have hp' : (f.fJoins.map TJoin.D)[((j : Int) - 1).toNat]? = some p.D := by
        have : ((j : Int) - 1).toNat = j - 1 := by omega
        rw [this, List.getElem?_map, hp]; rfl
      rw [pv_pos _ h0, hp, ltJ] at hj2
      (repeat' (first | (refine stg_ ?_) | (refine cla_ (validJoin_v x) ?_) | (refine IxW.at (by omega) hp' ?_; (conv => whnf)) | (refine br_ (fun hbr => ?_) (fun hbr => ?_))))
      all_goals first | (exfalso; omega) | ((refine RetOK.d rfl rfl ?_; conv => whnf); rw [hV, hj2]; simp_all; done) | ((refine RetOK.d rfl rfl ?_; conv => whnf); rw [hV, hj2, show decide (p.fGlyph < x.fGlyph) = false by (rw [decide_eq_false_iff_not]; omega)]; simp; done) | skip
      all_goals exact NextW.go (j + 1) covT_ ⟨by omega, by rw [hj2]; simp_all⟩ (by omega)
  · rw [jnG_end (by omega)] at hj2
    have c1 := hG hj2
    have hlast := fun k z => cls_last (xs := usG f) (k := k) (z := z)
    have hmem := fun x => cls_mem (xs := usG f) (x := x)
    have hlen := cls_len (usG f)
    have hul := usG_len (by rw [hFB, hj2] : ftB f = true)
    rw [hj2, Bool.true_and] at hV
    generalize usG f = us at *
    have hn : cls us = [] → us = [] := fun e => List.eq_nil_iff_forall_not_mem.2 fun x hx => by
      have := (hmem x).2 hx; rw [e] at this; simp at this
    generalize cls us = cs at *
    (repeat (refine stg_ ?_))
    (refine cla_ (c1) ?_)
    have hcl : ((cs ++ List.replicate (us.length - cs.length) 0).map (D.int .i64)).length = us.length := by simp; omega
    by_cases h0 : cs = []
    · have := hn h0
      subst h0
      subst this
      (repeat' (first | (refine stg_ ?_) | fail | (refine br_ (fun hbr => ?_) (fun hbr => ?_))))
      (refine RetOK.d rfl rfl ?_; conv => whnf)
      rw [hV]; rfl
    · have hpos : 0 < cs.length := List.length_pos_iff.2 h0
      obtain ⟨z, hz⟩ := at_lt' (xs := cs) (k := cs.length - 1) (by omega)
      have hz' : ((cs ++ List.replicate (us.length - cs.length) 0).map (D.int .i64))[((cs.length : Int) - 1).toNat + 0]? = some (.int .i64 z) := by
        have : ((cs.length : Int) - 1).toNat + 0 = cs.length - 1 := by omega
        rw [this, List.getElem?_map, List.getElem?_append_left (by omega), hz]; rfl
      have hmax := hlast (cs.length - 1) z (by omega) hz
      have hzu : z ∈ us := (hmem z).1 (List.mem_of_getElem? hz)
      have hA : (us.all fun x => decide (x < g)) = decide (z < g) := by
        rw [Bool.eq_iff_iff, List.all_eq_true]
        constructor
        · intro h; exact h z hzu
        · intro h x hx
          have := hmax x hx
          simp at h ⊢; omega
      rw [hA] at hV
      (repeat' (first | (refine stg_ ?_) | (refine EoW.at hz' ?_; (conv => whnf)) | (refine br_ (fun hbr => ?_) (fun hbr => ?_))))
      all_goals first | (exfalso; omega) | ((refine RetOK.d rfl rfl ?_; conv => whnf); rw [hV]; done) | ((refine RetOK.d rfl rfl ?_; conv => whnf); rw [hV]; simp_all; done) | skip

def ptI (n : Int) : List Int → List Int
  | [] => [n]
  | x :: t => if n ≤ x then (if n < x then n :: x :: t else x :: t) else x :: ptI n t
def ptS (o : List Int) (g : Int) : List Int := if 0 ≤ g then ptI g o else o
def ptA (o : List Int) (l : List Int) : List Int := l.foldl ptS o
theorem ptA_app (o a b : List Int) : ptA o (a ++ b) = ptA (ptA o a) b := List.foldl_append
theorem ptA_nil (o : List Int) : ptA o [] = o := rfl
theorem ptA_snoc {o xs : List Int} {k : Nat} {x : Int} (h : xs[k]? = some x) : ptA o (xs.take (k + 1)) = ptS (ptA o (xs.take k)) x := by
  rw [take_snoc_get h, ptA_app]; rfl
theorem mem_ptI (n : Int) : ∀ (xs : List Int) (x : Int), x ∈ ptI n xs ↔ x = n ∨ x ∈ xs
  | [], x => by simp [ptI]
  | y :: t, x => by
    rw [ptI]
    split
    · split
      · simp
      · have : y = n := by omega
        subst this
        simp
    · rw [List.mem_cons, mem_ptI n t x, List.mem_cons]
      constructor
      · rintro (h | h | h)
        · exact .inr (.inl h)
        · exact .inl h
        · exact .inr (.inr h)
      · rintro (h | h | h)
        · exact .inr (.inl h)
        · exact .inl h
        · exact .inr (.inr h)
def rsG : Int → List Int → Prop
  | _, [] => True
  | q, x :: t => q < x ∧ rsG x t
theorem rsG_ptI (n : Int) : ∀ (xs : List Int) (q : Int), q < n → rsG q xs → rsG q (ptI n xs)
  | [], q, h, _ => ⟨h, trivial⟩
  | x :: t, q, h, ⟨h1, h2⟩ => by
    rw [ptI]
    split
    · split
      · exact ⟨h, by assumption, h2⟩
      · exact ⟨h1, h2⟩
    · exact ⟨h1, rsG_ptI n t x (by omega) h2⟩
theorem rsG_cnt : ∀ (xs : List Int) (q b : Int), rsG q xs → (∀ x ∈ xs, x ≤ b) → q ≤ b → (xs.length : Int) ≤ b - q
  | [], q, b, _, _, h => by simp; omega
  | x :: t, q, b, ⟨h1, h2⟩, hb, h => by
    have h3 := hb x (by simp)
    have := rsG_cnt t x b h2 (fun y hy => hb y (by simp [hy])) h3
    rw [List.length_cons]; omega
structure Bd (o : List Int) : Prop where
  rs : rsG (-1) o
  le : ∀ x ∈ o, x ≤ 39
theorem Bd.nil : Bd [] := ⟨trivial, by simp⟩
theorem Bd.len {o : List Int} (H : Bd o) : o.length ≤ 40 := by
  have := rsG_cnt o (-1) 39 H.rs H.le (by omega)
  omega
theorem Bd.put {o : List Int} (H : Bd o) {g : Int} (h : g ≤ 39) : Bd (ptS o g) := by
  unfold ptS
  split
  · refine ⟨rsG_ptI g o (-1) (by omega) H.rs, fun x hx => ?_⟩
    rcases (mem_ptI g o x).1 hx with rfl | hx
    · exact h
    · exact H.le x hx
  · exact H
theorem Bd.all : ∀ {l o : List Int}, Bd o → (∀ g ∈ l, g ≤ 39) → Bd (ptA o l)
  | [], _, H, _ => H
  | g :: l, o, H, h => Bd.all (l := l) (o := ptS o g) (H.put (h g (by simp))) (fun x hx => h x (by simp [hx]))
set_option maxHeartbeats 2000000 in
theorem l00Put_o (xs : List Int) (n : Int) (hl : xs.length ≤ 1000) : PC Tryz.prog 98 [.d (.lst (xs.map (D.int .i64))), .d (.int .i64 n)] (.own 1 0 (ptI n xs).length) [.arr 1 ((ptI n xs).map (D.int .i64)) true] := by
  refine pc_intro ttOk (by kernel_rfl) Tryz.func98 rfl (by kernel_rfl) (by kernel_rfl) (by kernel_rfl) (fun hw => ?_)
  have hL : (xs.map (D.int .i64)).length = xs.length := List.length_map _
  generalize hR : ptI n xs = R
  (conv => whnf)
  refine LoopW.go (α := Nat × List Int × Bool) (fun p => [(0, .d (.lst (xs.map (D.int .i64)))), (1, .d (.int .i64 n)), (5, .own 1 0 p.2.1.length), (6, .d (.bool p.2.2)), (7, .d (.int .i64 (p.1 : Nat)))]) (fun p => [.gone, .arr 1 (p.2.1.map (D.int .i64)) true]) (fun p => p.1 ≤ xs.length ∧ (p.2.1.length ≤ p.1 + 1 ∧ (p.2.2 = false → p.2.1.length ≤ p.1)) ∧ R = p.2.1 ++ (if p.2.2 = true then xs.drop p.1 else ptI n (xs.drop p.1))) (fun p => xs.length - p.1) (0, [], false) covT_ ⟨by dsimp only; omega, by simp, by simp [hR]⟩ ?_
  rintro ⟨k, o, dn⟩ ⟨h1, ⟨h2, h2f⟩, h3⟩
  dsimp only at h1 h2 h2f h3 ⊢
  have hO : (o.map (D.int .i64)).length = o.length := List.length_map _
  have hO1 : ∀ y : Int, (o ++ [y]).length = o.length + 1 := fun y => by simp
  have hO2 : ∀ y z : Int, (o ++ [y] ++ [z]).length = o.length + 1 + 1 := fun y z => by simp
  have hT : (o.map (D.int .i64)).take o.length = o.map (D.int .i64) := List.take_of_length_le (by omega)
  cases dn with
  | true =>
    rw [if_pos rfl] at h3
    (conv => whnf)
    (refine br_ (fun h4 => ?_) (fun h4 => ?_) <;> (repeat (refine stg_ ?_)))
    · obtain ⟨x, hx⟩ := at_lt' (xs := xs) (k := k) (by omega)
      rw [drop_at hx] at h3
      (repeat' (first | (refine stg_ ?_) | fail | (refine br_ (fun hbr => ?_) (fun hbr => ?_))))
      all_goals first | (exfalso; omega) | skip
      refine NextW.go (k + 1, o ++ [x], true) (Weak.cov ⟨rfl, rfl, by (show _ = V.own 1 0 (o ++ [x]).length; rw [hO1]; rfl), rfl, rfl, trivial⟩ ⟨trivial, by (show _ = Blk.arr 1 ((o ++ [x]).map (D.int .i64)) true; rw [List.map_append]; show Blk.arr 1 ((o.map (D.int .i64)).take o.length ++ _) true = _; rw [hT]; rfl), trivial⟩ rfl) ⟨by dsimp only; omega, ⟨by rw [hO1]; dsimp only; omega, by intro q; cases q⟩, by rw [h3, if_pos rfl]; simp⟩ (by dsimp only; omega)
    · rw [List.drop_eq_nil_of_le (by omega), List.append_nil] at h3
      (repeat' (first | (refine stg_ ?_) | fail | (refine br_ (fun hbr => ?_) (fun hbr => ?_))))
      all_goals first | (exfalso; omega) | skip
      subst h3
      (refine ⟨⟨[some 1], ⟨by decide, rfl, trivial, trivial⟩, by decide, rfl, ?_⟩⟩; (conv => whnf); exact ⟨by decide, rfl⟩)
  | false =>
    have h2f := h2f rfl
    rw [if_neg (by simp)] at h3
    (conv => whnf)
    (refine br_ (fun h4 => ?_) (fun h4 => ?_) <;> (repeat (refine stg_ ?_)))
    · obtain ⟨x, hx⟩ := at_lt' (xs := xs) (k := k) (by omega)
      rw [drop_at hx, ptI] at h3
      by_cases c1 : n ≤ x
      · rw [if_pos c1] at h3
        by_cases c2 : n < x
        · rw [if_pos c2] at h3
          (repeat' (first | (refine stg_ ?_) | fail | (refine br_ (fun hbr => ?_) (fun hbr => ?_))))
          all_goals first | (exfalso; omega) | skip
          refine NextW.go (k + 1, o ++ [n] ++ [x], true) (Weak.cov ⟨rfl, rfl, by (show _ = V.own 1 0 (o ++ [n] ++ [x]).length; rw [hO2]; rfl), rfl, rfl, trivial⟩ ⟨trivial, by
            show Blk.arr 1 (((o.map (D.int .i64)).take o.length ++ [D.int .i64 n]).take (o.length + 1) ++ _) true = Blk.arr 1 ((o ++ [n] ++ [x]).map (D.int .i64)) true
            rw [hT, List.take_of_length_le (by simp), List.map_append, List.map_append]; rfl, trivial⟩ rfl) ⟨by dsimp only; omega, ⟨by rw [hO2]; dsimp only; omega, by intro q; cases q⟩, by rw [h3, if_pos rfl]; simp⟩ (by dsimp only; omega)
        · rw [if_neg c2] at h3
          (repeat' (first | (refine stg_ ?_) | fail | (refine br_ (fun hbr => ?_) (fun hbr => ?_))))
          all_goals first | (exfalso; omega) | skip
          refine NextW.go (k + 1, o ++ [x], true) (Weak.cov ⟨rfl, rfl, by (show _ = V.own 1 0 (o ++ [x]).length; rw [hO1]; rfl), rfl, rfl, trivial⟩ ⟨trivial, by (show _ = Blk.arr 1 ((o ++ [x]).map (D.int .i64)) true; rw [List.map_append]; show Blk.arr 1 ((o.map (D.int .i64)).take o.length ++ _) true = _; rw [hT]; rfl), trivial⟩ rfl) ⟨by dsimp only; omega, ⟨by rw [hO1]; dsimp only; omega, by intro q; cases q⟩, by rw [h3, if_pos rfl]; simp⟩ (by dsimp only; omega)
      · rw [if_neg c1] at h3
        (repeat' (first | (refine stg_ ?_) | fail | (refine br_ (fun hbr => ?_) (fun hbr => ?_))))
        all_goals first | (exfalso; omega) | skip
        refine NextW.go (k + 1, o ++ [x], false) (Weak.cov ⟨rfl, rfl, by (show _ = V.own 1 0 (o ++ [x]).length; rw [hO1]; rfl), rfl, rfl, trivial⟩ ⟨trivial, by (show _ = Blk.arr 1 ((o ++ [x]).map (D.int .i64)) true; rw [List.map_append]; show Blk.arr 1 ((o.map (D.int .i64)).take o.length ++ _) true = _; rw [hT]; rfl), trivial⟩ rfl) ⟨by dsimp only; omega, ⟨by rw [hO1]; dsimp only; omega, by intro _; rw [hO1]; dsimp only; omega⟩, by rw [h3, if_neg (by simp)]; simp⟩ (by dsimp only; omega)
    · rw [List.drop_eq_nil_of_le (by omega), ptI] at h3
      (repeat' (first | (refine stg_ ?_) | fail | (refine br_ (fun hbr => ?_) (fun hbr => ?_))))
      all_goals first | (exfalso; omega) | skip
      subst h3
      refine ⟨⟨[some 1], ⟨by decide, ?_, trivial, trivial⟩, by decide, rfl, ?_⟩⟩
      · show some (Blk.arr 1 ((o.map (D.int .i64)).take o.length ++ [D.int .i64 n]) true) = some (Blk.arr 1 ((o ++ [n]).map (D.int .i64)) true)
        rw [hT, List.map_append]; rfl
      · (conv => whnf)
        exact ⟨by decide, by rw [hO1]; rfl⟩
theorem jn_bnd {j : TJoin} (h : jnB j = true) : (0 ≤ j.fGlyph ∧ j.fGlyph ≤ 39) ∧ j.fInit ≤ 39 ∧ j.fMedi ≤ 39 ∧ j.fFina ≤ 39 := by
  simp only [jnB, fmB, inB, Bool.and_eq_true, decide_eq_true_eq] at h
  omega
theorem ptI_ge (n : Int) : ∀ xs : List Int, xs.length ≤ (ptI n xs).length
  | [] => by simp [ptI]
  | y :: t => by
    have := ptI_ge n t
    rw [ptI]
    split
    · split <;> simp
    · simp; omega
theorem ptI_new {n : Int} : ∀ {xs : List Int}, ¬ n ∈ xs → (ptI n xs).length = xs.length + 1
  | [], _ => rfl
  | y :: t, h => by
    have h1 : ¬ n = y := fun e => h (by simp [e])
    have h2 : ¬ n ∈ t := fun e => h (by simp [e])
    have := ptI_new h2
    rw [ptI]
    split
    · rw [if_pos (by omega)]; simp
    · simp; omega
theorem ptI_old {n : Int} : ∀ {xs : List Int} {q : Int}, rsG q xs → n ∈ xs → ptI n xs = xs
  | [], _, _, h => by simp at h
  | y :: t, q, ⟨h1, h2⟩, h => by
    rw [ptI]
    rcases List.mem_cons.1 h with rfl | h
    · rw [if_pos (by omega), if_neg (by omega)]
    · have h3 : y < n := by
        have key : ∀ (t : List Int) (y : Int), rsG y t → n ∈ t → y < n := by
          intro t
          induction t with
          | nil => intro y _ h; simp at h
          | cons z t ih =>
            intro y ⟨a, b⟩ h
            rcases List.mem_cons.1 h with rfl | h
            · exact a
            · have := ih z b h; omega
        exact key t y h2 h
      rw [if_neg (by omega), ptI_old h2 h]
theorem ptS_ge (o : List Int) (g : Int) : o.length ≤ (ptS o g).length := by
  unfold ptS
  split
  · exact ptI_ge g o
  · exact Nat.le_refl _
theorem ptA_ge : ∀ (l o : List Int), o.length ≤ (ptA o l).length
  | [], o => Nat.le_refl _
  | g :: l, o => Nat.le_trans (ptS_ge o g) (ptA_ge l (ptS o g))
theorem rsG_ext : ∀ (xs ys : List Int) (q : Int), rsG q xs → rsG q ys → (∀ x, x ∈ xs ↔ x ∈ ys) → xs = ys
  | [], [], _, _, _, _ => rfl
  | [], y :: t, _, _, _, h => by have := (h y).2 (by simp); simp at this
  | x :: t, [], _, _, _, h => by have := (h x).1 (by simp); simp at this
  | x :: s, y :: t, q, ⟨a1, a2⟩, ⟨b1, b2⟩, h => by
    have lo : ∀ (t : List Int) (y : Int), rsG y t → ∀ z ∈ t, y < z := by
      intro t
      induction t with
      | nil => intro y _ z h; simp at h
      | cons z t ih =>
        intro y ⟨a, b⟩ w h
        rcases List.mem_cons.1 h with rfl | h
        · exact a
        · have := ih z b w h; omega
    have h1 := (h x).1 (by simp)
    have h2 := (h y).2 (by simp)
    have e : x = y := by
      rcases List.mem_cons.1 h1 with e | h1
      · exact e
      · rcases List.mem_cons.1 h2 with e | h2
        · exact e.symm
        · have := lo t y b2 x h1
          have := lo s x a2 y h2
          omega
    subst e
    rw [rsG_ext s t x a2 b2 (fun z => ?_)]
    constructor
    · intro hz
      have := lo s x a2 z hz
      rcases List.mem_cons.1 ((h z).1 (by simp [hz])) with e | h'
      · omega
      · exact h'
    · intro hz
      have := lo t x b2 z hz
      rcases List.mem_cons.1 ((h z).2 (by simp [hz])) with e | h'
      · omega
      · exact h'
theorem rsG_snoc : ∀ (xs : List Int) (q z : Int), rsG q xs → q < z → (∀ x ∈ xs, x < z) → rsG q (xs ++ [z])
  | [], q, z, _, h, _ => ⟨h, trivial⟩
  | x :: t, q, z, ⟨h1, h2⟩, _, h => ⟨h1, rsG_snoc t x z h2 (h x (by simp)) (fun y hy => h y (by simp [hy]))⟩
def rgB (o : List Int) : List Bool := (List.range 40).map fun g : Nat => decide ((g : Int) ∈ o)
theorem rgB_len (o : List Int) : (rgB o).length = 40 := by simp [rgB]
theorem rgB_at (o : List Int) {g : Nat} (h : g < 40) : (rgB o)[g]? = some (decide ((g : Int) ∈ o)) := by simp [rgB, h]
theorem rgB_set {o o' : List Int} {g : Nat} (hg : g < 40) (h : ∀ x, x ∈ o' ↔ x = (g : Int) ∨ x ∈ o) : (rgB o).set g true = rgB o' := by
  apply List.ext_getElem?
  intro i
  rw [List.getElem?_set, rgB_len]
  by_cases hi : i < 40
  · rw [rgB_at o' hi, rgB_at o hi]
    split
    · rename_i e
      subst e
      first | (rw [if_pos hg]) | skip
      simp [(h g).2 (.inl rfl)]
    · rename_i e
      have : (((i : Nat) : Int) ∈ o') ↔ ((i : Nat) : Int) ∈ o := by
        rw [h]
        constructor
        · rintro (e' | h')
          · exact absurd (by omega) e
          · exact h'
        · exact .inr
      simp [this]
  · rw [List.getElem?_eq_none (by rw [rgB_len]; omega), List.getElem?_eq_none (by rw [rgB_len]; omega), if_neg (by omega)]
def rgO (o : List Int) (k : Nat) : List Int := ((List.range k).filter fun g : Nat => decide ((g : Int) ∈ o)).map fun g : Nat => (g : Int)
theorem rgO_yes {o : List Int} {k : Nat} (h : (k : Int) ∈ o) : rgO o (k + 1) = rgO o k ++ [(k : Int)] := by simp [rgO, List.range_succ, List.filter_append, h]
theorem rgO_no {o : List Int} {k : Nat} (h : ¬ (k : Int) ∈ o) : rgO o (k + 1) = rgO o k := by simp [rgO, List.range_succ, List.filter_append, h]
theorem rgO_mem {o : List Int} {k : Nat} {x : Int} : x ∈ rgO o k ↔ (0 ≤ x ∧ x < k) ∧ x ∈ o := by
  simp only [rgO, List.mem_map, List.mem_filter, List.mem_range, decide_eq_true_eq]
  constructor
  · rintro ⟨a, ⟨h1, h2⟩, rfl⟩
    exact ⟨by omega, h2⟩
  · rintro ⟨⟨h1, h2⟩, h3⟩
    refine ⟨x.toNat, ⟨by omega, ?_⟩, by omega⟩
    rw [show ((x.toNat : Nat) : Int) = x by omega]; exact h3
theorem rgO_rs (o : List Int) : ∀ k, rsG (-1) (rgO o k)
  | 0 => by simp [rgO, rsG]
  | k + 1 => by
    by_cases h : (k : Int) ∈ o
    · rw [rgO_yes h]
      exact rsG_snoc _ _ _ (rgO_rs o k) (by omega) (fun x hx => (rgO_mem.1 hx).1.2)
    · rw [rgO_no h]; exact rgO_rs o k
theorem rgO_len (o : List Int) (k : Nat) : (rgO o k).length ≤ k := by
  simp only [rgO, List.length_map]
  exact Nat.le_trans (List.length_filter_le _ _) (by simp)
theorem Bd.ge {o : List Int} (H : Bd o) : ∀ x ∈ o, 0 ≤ x := by
  have key : ∀ (t : List Int) (y : Int), rsG y t → ∀ z ∈ t, y < z := by
    intro t
    induction t with
    | nil => intro y _ z h; simp at h
    | cons z t ih =>
      intro y ⟨a, b⟩ w h
      rcases List.mem_cons.1 h with rfl | h
      · exact a
      · have := ih z b w h; omega
  intro x hx
  have := key o (-1) H.rs x hx
  omega
theorem rgO_all {o : List Int} (H : Bd o) : rgO o 40 = o :=
  rsG_ext _ _ _ (rgO_rs o 40) H.rs (fun x => by
    rw [rgO_mem]
    exact ⟨And.right, fun h => ⟨⟨H.ge x h, by have := H.le x h; omega⟩, h⟩⟩)
def rgM (cs : List (List Int)) (o : List Int) : Bool := cs.all fun c => c.any fun g => decide (g ∈ o)
def rgR (o : List Int) (r : TRule) : List Int := if (rgM r.fBefore o && rgM r.fInput o && rgM r.fAfter o) = true then ptA o r.fOutput else o
def rgL (o : List Int) (l : TLookup) : List Int := l.fRules.foldl rgR o
def rgJ (o : List Int) (j : TJoin) : List Int := if j.fGlyph ∈ o then ptA o [j.fInit, j.fMedi, j.fFina] else o
def rgP (f : TFeatures) (o : List Int) : List Int := f.fJoins.foldl rgJ (f.fLookups.foldl rgL o)
def rgN (f : TFeatures) : Nat → List Int → List Int
  | 0, o => o
  | n + 1, o => if (rgP f o).length = o.length then rgP f o else rgN f n (rgP f o)
theorem fold_at {α β : Type} {g : β → α → β} {xs : List α} {k : Nat} {x : α} {o : β} (h : xs[k]? = some x) : (xs.drop k).foldl g o = (xs.drop (k + 1)).foldl g (g o x) := by
  rw [drop_at h, List.foldl_cons]
theorem fold_end {α β : Type} {g : β → α → β} {xs : List α} {k : Nat} {o : β} (h : xs.length ≤ k) : (xs.drop k).foldl g o = o := by
  rw [List.drop_eq_nil_of_le h, List.foldl_nil]
theorem clG_rs : ∀ (xs : List Int) (q : Int), clG (some q) xs = true → rsG q xs
  | [], _, _ => trivial
  | x :: t, q, h => by
    rw [clG] at h
    simp only [ltQ, Bool.and_eq_true, decide_eq_true_eq] at h
    exact ⟨h.2.1, clG_rs t x h.2.2⟩
theorem cls_Bd {xs : List Int} (h : clsB xs = true) : Bd xs := by
  refine ⟨?_, fun x hx => (clG_bnd xs none h x hx).2⟩
  cases xs with
  | nil => trivial
  | cons x t =>
    have h0 := (clG_bnd (x :: t) none h x (by simp)).1
    rw [clsB, clG] at h
    simp only [Bool.and_eq_true] at h
    exact ⟨by omega, clG_rs t x h.2.2⟩
theorem hasI_mem (xs : List Int) (x : Int) : hasI xs x = decide (x ∈ xs) := by
  unfold hasI
  rw [Bool.eq_iff_iff, List.any_eq_true, decide_eq_true_eq]
  constructor
  · rintro ⟨y, hy, e⟩
    obtain rfl : y = x := by simpa using e
    exact hy
  · intro h
    exact ⟨x, h, by simp⟩
theorem Bd.ruR {o : List Int} {r : TRule} (H : Bd o) (hr : ruB r = true) : Bd (rgR o r) := by
  unfold rgR
  split
  · exact H.all (fun g hg => ((ruB_fcs hr).2.2.2.1 g hg).2)
  · exact H
theorem rgR_ge (o : List Int) (r : TRule) : o.length ≤ (rgR o r).length := by
  unfold rgR
  split
  · exact ptA_ge _ _
  · exact Nat.le_refl _
theorem jn_bnd3 {j : TJoin} (h : jnB j = true) : ∀ g ∈ [j.fInit, j.fMedi, j.fFina], g ≤ 39 := by
  have := jn_bnd h
  intro g hg
  simp only [List.mem_cons, List.not_mem_nil, or_false] at hg
  rcases hg with rfl | rfl | rfl <;> omega
theorem Bd.jnJ {o : List Int} {j : TJoin} (H : Bd o) (hj : jnB j = true) : Bd (rgJ o j) := by
  unfold rgJ
  split
  · exact H.all (jn_bnd3 hj)
  · exact H
theorem rgJ_ge (o : List Int) (j : TJoin) : o.length ≤ (rgJ o j).length := by
  unfold rgJ
  split
  · exact ptA_ge _ _
  · exact Nat.le_refl _
theorem fold_Bd {α : Type} {g : List Int → α → List Int} : ∀ (xs : List α) (o : List Int), Bd o → (∀ x ∈ xs, ∀ o, Bd o → Bd (g o x)) → Bd (xs.foldl g o)
  | [], o, H, _ => H
  | x :: t, o, H, h => fold_Bd t (g o x) (h x (by simp) o H) (fun y hy => h y (by simp [hy]))
theorem Bd.pass {f : TFeatures} (hf : ftB f = true) {o : List Int} (H : Bd o) : Bd (rgP f o) :=
  fold_Bd _ _ (fold_Bd _ _ H fun l hl o H => fold_Bd _ _ H fun r hr o H => H.ruR ((lkB_ru ((ftB_F hf).lk l hl)).1 r hr)) fun j hj o H => H.jnJ ((ftB_F hf).jn j hj)
theorem rgN_Bd {f : TFeatures} (hf : ftB f = true) : ∀ (n : Nat) (o : List Int), Bd o → Bd (rgN f n o)
  | 0, _, H => H
  | n + 1, o, H => by
    rw [rgN]
    split
    · exact H.pass hf
    · exact rgN_Bd hf n _ (H.pass hf)
def rgS (f : TFeatures) (c : List Int) : List Int := rgN f 41 c
end Go.Proofs.YtcachhipflibkaaGreat
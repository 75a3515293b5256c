/- Files of tables are read: words, trimming, heads, entries (impl). -/
import Derived.Test.YtcnlmllhnmaogaaDoorTabR
import Derived.Test.YtcnlmllhnmaogaaDoorDec
set_option linter.unusedSimpArgs false
set_option linter.unusedVariables false
namespace Go.Proofs.YtcnlmllhnmaogaaDoor
open Go.RowKit
theorem GetWord_v (s : ByteArray) (a : Nat) (h : a + 4 ≤ s.size) : PC Tryd.prog 59 [.d (.str s), .d (.int .i64 a), .d (.int .i64 (4 : Nat))] (.tup [.d (.int .i64 (gwK s a 4 : Nat)), .d (.bool true)]) [] := by
  refine pc_intro ttOk (by kernel_rfl) Tryd.func59 rfl (by kernel_rfl) (by kernel_rfl) (by kernel_rfl) (fun hw => ?_)
  have hs : s.size ≤ 9223372036854775807 := hw.1
  (conv => whnf)
  (repeat (refine stg_ ?_))
  (repeat' (first | (refine stg_ ?_) | fail | (refine br_ (fun hbr => ?_) (fun hbr => ?_))))
  all_goals first | (exfalso; simp_all; done) | (exfalso; simp_all; omega) | skip
  refine LoopW.go (α := Nat) (fun k => [(0, .d (.str s)), (1, .d (.int .i64 a)), (2, .d (.int .i64 (4 : Nat))), (8, .d (.int .i64 (gwK s a k : Nat))), (9, .d (.int .i64 k))]) (fun _ => [.gone]) (fun k => k ≤ 4) (fun k => 4 - k) 0 covT_ (by omega) (fun k hk => ?_)
  have hlt := gwK_lt s a k
  (conv => whnf)
  (refine br_ (fun h1 => ?_) (fun h1 => ?_))
  · have hc := bget? (s := s) (k := a + k) (by omega)
    have hcl := (s[a + k]'(by omega)).toNat_lt
    have hS := gwK_at hc
    have hpw : 256 ^ k ≤ 256 ^ 3 := Nat.pow_le_pow_right (by omega) (by omega)
    have ho := or_add (n := gwK s a k) (c := (s[a + k]'(by omega)).toNat) (by omega) hcl
    refine BnW.at (by omega) ?_
    (conv => whnf)
    refine ShW.at (q := 256) (by rfl) (by omega) ?_
    (conv => whnf)
    (refine stg_ ?_)
    refine ArW.i64e ((a + k : Nat) : Int) (by omega) (by omega) ?_
    (conv => whnf)
    (refine stg_ ?_)
    (refine stg_ ?_)
    refine ArW.i64e ((gwK s a (k + 1) : Nat) : Int) (by omega) (by omega) ?_
    (conv => whnf)
    (repeat (refine stg_ ?_))
    exact NextW.go (k + 1) covT_ (by omega) (by omega)
  · obtain rfl : k = 4 := by omega
    (refine RetOK.t rfl ?_; (repeat' ((conv => whnf); (first | done | (refine ⟨_, _, rfl, ⟨rfl, ?_⟩, ?_⟩) | fail))); (all_goals (conv => whnf)))
/-- what is left of the first k bytes when zero bytes at their end go -/
def zR (s : ByteArray) : Nat → Nat
  | 0 => 0
  | k + 1 => if s[k]? = some 0 then zR s k else k + 1
theorem zR_le (s : ByteArray) : ∀ k, zR s k ≤ k
  | 0 => Nat.le_refl _
  | k + 1 => by
    have := zR_le s k
    rw [zR]; split <;> omega
/-- how many of the bytes from k on are zero, one behind the other -/
def zF (s : ByteArray) : Nat → Nat → Nat
  | 0, k => k
  | f + 1, k => if s[k]? = some 0 then zF s f (k + 1) else k
/-- a string without the zero bytes at both ends -/
def zT (s : ByteArray) : ByteArray := (s.extract 0 (zR s s.size)).extract (zF (s.extract 0 (zR s s.size)) (s.extract 0 (zR s s.size)).size 0) (s.extract 0 (zR s s.size)).size
theorem ext_size (s : ByteArray) {a b : Nat} (h : b ≤ s.size) : (s.extract a b).size = b - a := by simp; omega
theorem ext_get (s : ByteArray) {a b j : Nat} (h : b ≤ s.size) (hj : a + j < b) : (s.extract a b)[j]? = s[a + j]? := by
  have h1 : j < (s.extract a b).size := by rw [ext_size s h]; omega
  rw [getElem?_pos _ j h1, getElem?_pos s (a + j) (by omega), ByteArray.getElem_extract]
theorem ext_ext (s : ByteArray) {a b c : Nat} (hc : a + c ≤ b) : (s.extract a b).extract 0 c = s.extract a (a + c) := by
  rw [ByteArray.extract_extract]
  congr 1; omega
theorem ext_ext1 (s : ByteArray) {a b : Nat} : (s.extract a b).extract 1 (b - a) = s.extract (a + 1) b := by
  rw [ByteArray.extract_extract]
  congr 1
  rcases Nat.lt_or_ge a b with h | h
  · omega
  · omega
theorem trimR_v (s : ByteArray) : PC Tryd.prog 79 [.d (.str s), .d (.int .u8 (0 : Nat))] (.d (.str (s.extract 0 (zR s s.size)))) [] := by
  refine pc_intro ttOk (by kernel_rfl) Tryd.func79 rfl (by kernel_rfl) (by kernel_rfl) (by kernel_rfl) (fun hw => ?_)
  have hs : s.size ≤ 9223372036854775807 := hw.1
  (conv => whnf)
  refine LoopW.go (α := Nat) (fun k => [(0, .d (.str (s.extract 0 k))), (1, .d (.int .u8 (0 : Nat)))]) (fun _ => [.gone]) (fun k => k ≤ s.size ∧ zR s s.size = zR s k) (fun k => k) s.size (Weak.cov ⟨by rw [ByteArray.extract_zero_size]; rfl, rfl, trivial⟩ ⟨trivial, trivial⟩ rfl) ⟨Nat.le_refl _, rfl⟩ (fun k hk => ?_)
  obtain ⟨hk1, hk2⟩ := hk
  have hz := ext_size s (a := 0) hk1
  (conv => whnf)
  (refine br_ (fun h1 => ?_) (fun h1 => ?_))
  · obtain ⟨k, rfl⟩ : ∃ j, k = j + 1 := ⟨k - 1, by omega⟩
    have hc := bget? (s := s) (k := k) (by omega)
    have he : (s.extract 0 (k + 1))[k]? = some (s[k]'(by omega)) := by rw [ext_get s hk1 (by omega), Nat.zero_add, hc]
    have hx := ext_ext s (a := 0) (b := k + 1) (c := k) (by omega)
    refine ArW.i64e (k : Int) (by omega) (by omega) ?_
    (conv => whnf)
    (refine stg_ ?_)
    (refine br_ (fun h2 => ?_) (fun h2 => ?_))
    · refine ArW.i64e (k : Int) (by omega) (by omega) ?_
      (conv => whnf)
      (repeat (refine stg_ ?_))
      have h0 : s[k]'(by omega) = 0 := UInt8.toNat_inj.1 (by have : (0 : UInt8).toNat = 0 := rfl; omega)
      refine NextW.go k (Weak.cov ⟨?_, rfl, trivial⟩ ⟨trivial, trivial⟩ rfl) ⟨by omega, ?_⟩ (by omega)
      · exact congrArg (fun z => V.d (D.str z)) (hx.trans (by rw [Nat.zero_add]))
      · rw [hk2, zR, if_pos (by rw [hc, h0])]
    · (refine RetOK.d rfl rfl ?_; conv => whnf)
      have h0 : ¬ s[k]? = some 0 := by
        rw [hc]; intro e; injection e with e; rw [e] at h2; exact h2 rfl
      rw [hk2, zR, if_neg h0]
  · obtain rfl : k = 0 := by omega
    (repeat (refine stg_ ?_))
    (refine RetOK.d rfl rfl ?_; conv => whnf)
    rw [hk2]; rfl
theorem trimL_v (s : ByteArray) : PC Tryd.prog 78 [.d (.str s), .d (.int .u8 (0 : Nat))] (.d (.str (s.extract (zF s s.size 0) s.size))) [] := by
  refine pc_intro ttOk (by kernel_rfl) Tryd.func78 rfl (by kernel_rfl) (by kernel_rfl) (by kernel_rfl) (fun hw => ?_)
  have hs : s.size ≤ 9223372036854775807 := hw.1
  (conv => whnf)
  refine LoopW.go (α := Nat) (fun k => [(0, .d (.str (s.extract k s.size))), (1, .d (.int .u8 (0 : Nat)))]) (fun _ => [.gone]) (fun k => k ≤ s.size ∧ zF s s.size 0 = zF s (s.size - k) k) (fun k => s.size - k) 0 (Weak.cov ⟨by rw [ByteArray.extract_zero_size]; rfl, rfl, trivial⟩ ⟨trivial, trivial⟩ rfl) ⟨by omega, rfl⟩ (fun k hk => ?_)
  obtain ⟨hk1, hk2⟩ := hk
  have hz := ext_size s (a := k) (Nat.le_refl s.size)
  (conv => whnf)
  (refine br_ (fun h1 => ?_) (fun h1 => ?_))
  · have hc := bget? (s := s) (k := k) (by omega)
    have he : (s.extract k s.size)[0]? = some (s[k]'(by omega)) := by rw [ext_get s (Nat.le_refl _) (by omega), Nat.add_zero, hc]
    have hx : (s.extract k s.size).extract 1 (s.extract k s.size).size = s.extract (k + 1) s.size := by rw [hz]; exact ext_ext1 s
    rw [show s.size - k = (s.size - (k + 1)) + 1 by omega, zF] at hk2
    (refine stg_ ?_)
    (refine br_ (fun h2 => ?_) (fun h2 => ?_))
    · (repeat (refine stg_ ?_))
      have h0 : s[k]'(by omega) = 0 := UInt8.toNat_inj.1 (by have : (0 : UInt8).toNat = 0 := rfl; omega)
      rw [if_pos (by rw [hc, h0])] at hk2
      refine NextW.go (k + 1) (Weak.cov ⟨?_, rfl, trivial⟩ ⟨trivial, trivial⟩ rfl) ⟨by omega, hk2⟩ (by omega)
      exact congrArg (fun z => V.d (D.str z)) hx
    · (refine RetOK.d rfl rfl ?_; conv => whnf)
      have h0 : ¬ s[k]? = some 0 := by
        rw [hc]; intro e; injection e with e; rw [e] at h2; exact h2 rfl
      rw [hk2, if_neg h0]
  · obtain rfl : k = s.size := by omega
    (repeat (refine stg_ ?_))
    (refine RetOK.d rfl rfl ?_; conv => whnf)
    rw [hk2, Nat.sub_self]; rfl
theorem Trim_c (s c : ByteArray) (hc1 : c.size = 1) (hc2 : c[0]? = some 0) (hc3 : (c.toList == (ByteArray.mk #[]).toList) = false) : PC Tryd.prog 60 [.d (.str s), .d (.str c)] (.d (.str (zT s))) [] := by
  refine pc_intro ttOk (by kernel_rfl) Tryd.func60 rfl (by kernel_rfl) (by kernel_rfl) (by kernel_rfl) (fun hw => ?_)
  have hs : s.size ≤ 9223372036854775807 := hw.1
  (conv => whnf)
  (refine br_ (fun h1 => ?_) (fun h1 => ?_))
  · (repeat (refine stg_ ?_))
    (refine RetOK.d rfl rfl ?_; conv => whnf)
    have h0 : s = ByteArray.mk #[] := toL_inj h1
    subst h0
    rfl
  · have c1 := trimR_v s
    have c2 := trimL_v (s.extract 0 (zR s s.size))
    (repeat' (first | (refine stg_ ?_) | (refine cla_ (c1) ?_) | (refine cla_ (c2) ?_) | (refine br_ (fun hbr => ?_) (fun hbr => ?_))))
    all_goals first | (exfalso; simp_all; done) | (exfalso; rw [hc1] at *; simp_all; done) | skip
    (refine RetOK.d rfl rfl ?_; conv => whnf)
    rfl
theorem Trim_v (s : ByteArray) : PC Tryd.prog 60 [.d (.str s), .d (.str ⟨#[0]⟩)] (.d (.str (zT s))) [] := Trim_c s ⟨#[0]⟩ rfl rfl (by rw [ByteArray.toList_eq, ByteArray.toList_eq]; rfl)
theorem zR_zero (s : ByteArray) : ∀ k, zR s k = 0 ↔ ∀ j, j < k → s[j]? = some 0
  | 0 => by simp [zR]
  | k + 1 => by
    rw [zR]
    split
    · rename_i h
      rw [zR_zero s k]
      constructor
      · intro H j hj
        rcases Nat.lt_or_ge j k with h1 | h1
        · exact H j h1
        · obtain rfl : j = k := by omega
          exact h
      · intro H j hj
        exact H j (by omega)
    · rename_i h
      constructor
      · intro H; omega
      · intro H; exact absurd (H k (by omega)) h
theorem zR_last (s : ByteArray) : ∀ k, zR s k = 0 ∨ ¬ s[zR s k - 1]? = some 0
  | 0 => .inl rfl
  | k + 1 => by
    rw [zR]
    split
    · exact zR_last s k
    · rename_i h
      exact .inr h
theorem zF_le (s : ByteArray) {m : Nat} (hm : ¬ s[m]? = some 0) : ∀ f k, k ≤ m → zF s f k ≤ m
  | 0, k, h => h
  | f + 1, k, h => by
    rw [zF]
    split
    · rename_i h1
      have : k ≠ m := by rintro rfl; exact hm h1
      exact zF_le s hm f (k + 1) (by omega)
    · exact h
theorem zT_nil (s : ByteArray) : ((zT s).toList = (ByteArray.mk #[]).toList) ↔ zR s s.size = 0 := by
  have hle := zR_le s s.size
  constructor
  · intro h
    rcases zR_last s s.size with h1 | h1
    · exact h1
    · apply Classical.byContradiction
      intro h2
      have h3 : (zT s).size = 0 := by rw [toL_inj h]; rfl
      have h4 := ext_size s (a := 0) hle
      have h5 : ¬ (s.extract 0 (zR s s.size))[zR s s.size - 1]? = some 0 := by rw [ext_get s hle (by omega), Nat.zero_add]; exact h1
      have h6 := zF_le _ h5 (s.extract 0 (zR s s.size)).size 0 (by omega)
      rw [zT, ext_size _ (Nat.le_refl _)] at h3
      omega
  · intro h
    have h3 : (zT s).size = 0 := by rw [zT, ext_size _ (Nat.le_refl _), ext_size s hle, h]; omega
    have : zT s = ByteArray.mk #[] := ByteArray.ext (Array.eq_empty_of_size_eq_zero h3)
    rw [this]
/-- the padding holds zero bytes only -/
theorem zR_pad (s : ByteArray) {a b : Nat} (hb : b ≤ s.size) : zR (s.extract a b) (s.extract a b).size = 0 ↔ ∀ k, a ≤ k → k < b → s[k]? = some 0 := by
  rw [zR_zero, ext_size s hb]
  constructor
  · intro H k h1 h2
    have := H (k - a) (by omega)
    rw [ext_get s hb (by omega)] at this
    rwa [show a + (k - a) = k by omega] at this
  · intro H j hj
    rw [ext_get s hb (by omega)]
    exact H (a + j) (by omega) (by omega)
def cnt (s : ByteArray) : Nat := gwK s 4 4
def mag : ByteArray := ⟨#[80, 84, 70, 49]⟩
/-- the code of a file's head -/
def hdE (s : ByteArray) : Nat := if 65536 < s.size then 5 else if s.size < 12 then 11 else if ¬ (s.extract 0 4).toList = mag.toList ∨ 16 < cnt s then 9 else if s.size < 12 + 16 * cnt s then 11 else if ¬ (gwK s 8 4 : Int) = sumB (s.extract 12 (12 + 16 * cnt s)) then 10 else 0
theorem checkHead_v (s : ByteArray) : PC Tryd.prog 58 [.d (.str s)] (.tup [.d (.int .i64 (if hdE s = 0 then cnt s else 0 : Nat)), .d (.int .i64 (hdE s))]) [] := by
  refine pc_intro ttOk (by kernel_rfl) Tryd.func58 rfl (by kernel_rfl) (by kernel_rfl) (by kernel_rfl) (fun hw => ?_)
  have hs : s.size ≤ 9223372036854775807 := hw.1
  (conv => whnf)
  (repeat (refine stg_ ?_))
  (refine br_ (fun h1 => ?_) (fun h1 => ?_) <;> (repeat (refine stg_ ?_)))
  · have e : hdE s = 5 := by rw [hdE, if_pos (by omega)]
    rw [e]
    (refine RetOK.t rfl ?_; (repeat' ((conv => whnf); (first | done | (refine ⟨_, _, rfl, ⟨rfl, ?_⟩, ?_⟩) | fail))); (all_goals (conv => whnf)))
    all_goals rfl
  (refine br_ (fun h2 => ?_) (fun h2 => ?_) <;> (repeat (refine stg_ ?_)))
  · have e : hdE s = 11 := by rw [hdE, if_neg (by omega), if_pos (by omega)]
    rw [e]
    (refine RetOK.t rfl ?_; (repeat' ((conv => whnf); (first | done | (refine ⟨_, _, rfl, ⟨rfl, ?_⟩, ?_⟩) | fail))); (all_goals (conv => whnf)))
    all_goals rfl
  have c1 := GetWord_v s 4 (by omega)
  have hg := gwK_lt s 4 4
  (refine cla_ (c1) ?_)
  (repeat (refine stg_ ?_))
  (refine br_ (fun h3 => ?_) (fun h3 => ?_) <;> (repeat (refine stg_ ?_)))
  · have e : hdE s = 9 := by rw [hdE, if_neg (by omega), if_neg (by omega), if_pos (.inl h3)]
    rw [e]
    (refine RetOK.t rfl ?_; (repeat' ((conv => whnf); (first | done | (refine ⟨_, _, rfl, ⟨rfl, ?_⟩, ?_⟩) | fail))); (all_goals (conv => whnf)))
    all_goals rfl
  have h3' : (s.extract 0 4).toList = mag.toList := h3
  (refine br_ (fun h4 => ?_) (fun h4 => ?_) <;> (repeat (refine stg_ ?_)))
  · have e : hdE s = 9 := by rw [hdE, if_neg (by omega), if_neg (by omega), if_pos (.inr (by unfold cnt; omega))]
    rw [e]
    (refine RetOK.t rfl ?_; (repeat' ((conv => whnf); (first | done | (refine ⟨_, _, rfl, ⟨rfl, ?_⟩, ?_⟩) | fail))); (all_goals (conv => whnf)))
    all_goals rfl
  have h4' : cnt s ≤ 16 := by unfold cnt; omega
  have hcl : ((gwK s 4 4 : Nat) : Int) = ((cnt s : Nat) : Int) := rfl
  rw [hcl, show (12 : Int) + 16 * ((cnt s : Nat) : Int) = ((12 + 16 * cnt s : Nat) : Int) by omega]
  have c2 := GetWord_v s 8 (by omega)
  have c3 := Sum32_v (s.extract 12 (12 + 16 * cnt s))
  (refine br_ (fun h5 => ?_) (fun h5 => ?_) <;> (repeat (refine stg_ ?_)))
  · have e : hdE s = 11 := by rw [hdE, if_neg (by omega), if_neg (by omega), if_neg (by rintro (h | h); (focus exact h h3'); omega), if_pos (by omega)]
    rw [e]
    (refine RetOK.t rfl ?_; (repeat' ((conv => whnf); (first | done | (refine ⟨_, _, rfl, ⟨rfl, ?_⟩, ?_⟩) | fail))); (all_goals (conv => whnf)))
    all_goals rfl
  (refine cla_ (c2) ?_)
  (repeat (refine stg_ ?_))
  (refine cla_ (c3) ?_)
  (refine br_ (fun h6 => ?_) (fun h6 => ?_) <;> (repeat (refine stg_ ?_)))
  · have e : hdE s = 10 := by rw [hdE, if_neg (by omega), if_neg (by omega), if_neg (by rintro (h | h); (focus exact h h3'); omega), if_neg (by omega), if_pos h6]
    rw [e]
    (refine RetOK.t rfl ?_; (repeat' ((conv => whnf); (first | done | (refine ⟨_, _, rfl, ⟨rfl, ?_⟩, ?_⟩) | fail))); (all_goals (conv => whnf)))
    all_goals rfl
  · have e : hdE s = 0 := by rw [hdE, if_neg (by omega), if_neg (by omega), if_neg (by rintro (h | h); (focus exact h h3'); omega), if_neg (by omega), if_neg (by rw [h6]; exact fun h => h rfl)]
    rw [e]
    (refine RetOK.t rfl ?_; (repeat' ((conv => whnf); (first | done | (refine ⟨_, _, rfl, ⟨rfl, ?_⟩, ?_⟩) | fail))); (all_goals (conv => whnf)))
    all_goals rfl
end Go.Proofs.YtcnlmllhnmaogaaDoor

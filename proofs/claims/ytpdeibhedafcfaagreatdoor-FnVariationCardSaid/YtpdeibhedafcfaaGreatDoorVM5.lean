/- merged: several parts in one text. Leans on no more than they do. -/
import Derived.Test.YtpdeibhedafcfaaGreatDoorTypes
import Derived.Test.YtpdeibhedafcfaaGreatDoorLawL
import Derived.MapKept
set_option linter.unusedSimpArgs false
set_option linter.unusedVariables false
namespace Go.Proofs.YtpdeibhedafcfaaGreatDoor
open Go.RowKit
def smB (c : UInt8) : Bool := decide ((97 : Int) ≤ c.toNat) && decide ((c.toNat : Int) ≤ 122)
def dgB (c : UInt8) : Bool := decide ((48 : Int) ≤ c.toNat) && decide ((c.toNat : Int) ≤ 57)
def nmC (c : UInt8) : Bool := smB c || dgB c || decide ((c.toNat : Int) = 46)
def nmL : List UInt8 → Bool
 | [] => false
 | c :: t => smB c && t.all nmC
def nameB (s : ByteArray) : Bool := decide (s.size ≤ 12) && nmL s.data.toList
theorem bgetN {s : ByteArray} {k : Nat} (h : k < s.size) : s.data.toList[k]? = some (s[k]'h) := by
 have h' : k < s.data.toList.length := h
 rw [List.getElem?_eq_getElem h']
 rfl
theorem toL_inj {a b : ByteArray} (h : a.toList = b.toList) : a = b := by
 rw [ByteArray.toList_eq, ByteArray.toList_eq] at h
 exact ByteArray.ext (Array.toList_inj.mp h)
theorem bget? {s : ByteArray} {k : Nat} (h : k < s.size) : s[k]? = some (s[k]'h) := by simp [h]
theorem dropN {s : ByteArray} {k : Nat} (h : k < s.size) : s.data.toList.drop k = s[k]'h :: s.data.toList.drop (k + 1) := by
 have := bgetN h
 have h' : k < s.data.toList.length := h
 rw [List.drop_eq_getElem_cons h']
 rfl
theorem smB_nmC {c : UInt8} (h : smB c = true) : nmC c = true := by simp [nmC, h]
theorem nameB_nil {s : ByteArray} (h : s.size = 0) : nameB s = false := by
 have : s.data.toList = [] := List.eq_nil_of_length_eq_zero h
 simp [nameB, this, nmL]
theorem nameB_cons {s : ByteArray} (h : 0 < s.size) : nameB s = (decide (s.size ≤ 12) && (smB (s[0]'h) && (s.data.toList.drop 1).all nmC)) := by
 rw [nameB]
 conv => lhs; rw [← List.drop_zero (l := s.data.toList), dropN h]
 rfl
def nrm (a : Int) : Bool := decide (-16384 ≤ a) && decide (a ≤ 16384)
def inB (n lo hi : Int) : Bool := decide (lo ≤ n) && decide (n ≤ hi)
def divR (n d : Int) : Int := if d ≤ 0 then 0 else if d - n % d ≤ n % d then n / d + 1 else n / d
theorem div_facts {n d : Int} (hd : 0 < d) (h1 : -9223372036854775808 ≤ n) (h2 : n ≤ 9223372036854775807) : 0 ≤ n % d ∧ n % d < d ∧ -9223372036854775808 ≤ n / d ∧ n / d ≤ 9223372036854775807 ∧ (2 ≤ d → -4611686018427387904 ≤ n / d ∧ n / d ≤ 4611686018427387903) := by
 have hm := Int.emod_add_mul_ediv n d
 have a := Int.emod_nonneg n (show d ≠ 0 by omega)
 have b := Int.emod_lt_of_pos n hd
 refine ⟨a, b, ?_, ?_, fun h => ⟨?_, ?_⟩⟩
 ·exact (Int.le_ediv_iff_mul_le hd).2 (by have : -9223372036854775808 * d ≤ -9223372036854775808 * 1 := Int.mul_le_mul_of_nonpos_left (by omega) (by omega); omega)
 ·have : n / d < 9223372036854775808 := (Int.ediv_lt_iff_lt_mul hd).2 (by have : 9223372036854775808 * 1 ≤ 9223372036854775808 * d := Int.mul_le_mul_of_nonneg_left (by omega) (by omega); omega)
  omega
 ·exact (Int.le_ediv_iff_mul_le hd).2 (by have : -4611686018427387904 * d ≤ -4611686018427387904 * 2 := Int.mul_le_mul_of_nonpos_left (by omega) (by omega); omega)
 ·have : n / d < 4611686018427387904 := (Int.ediv_lt_iff_lt_mul hd).2 (by have : 4611686018427387904 * 2 ≤ 4611686018427387904 * d := Int.mul_le_mul_of_nonneg_left (by omega) (by omega); omega)
  omega
theorem tdiv_facts {n d : Int} (hd : 0 < d) :
  (n.tmod d < 0 → n.tdiv d - 1 = n / d ∧ n.tmod d + d = n % d ∧ -d < n.tmod d ∧ 2 ≤ d) ∧ (0 ≤ n.tmod d → n.tdiv d = n / d ∧ n.tmod d = n % d) := by
 have e := Int.tmod_add_mul_tdiv n d
 have e' := Int.emod_add_mul_ediv n d
 have a := Int.emod_nonneg n (show d ≠ 0 by omega)
 have b := Int.emod_lt_of_pos n hd
 have c := Int.lt_tmod_of_pos n hd
 have c' := Int.tmod_lt_of_pos n hd
 constructor
 ·intro h
  have h1 : d * (n.tdiv d - 1) + (n.tmod d + d) = n := by rw [Int.mul_sub]; omega
  have h2 : n / d = n.tdiv d - 1 := by
   have := Int.ediv_emod_unique hd (a := n) (r := n.tmod d + d) (q := n.tdiv d - 1)
   exact (this.2 ⟨by rw [Int.add_comm]; exact h1, by omega, by omega⟩).1
  have h3 : n % d = n.tmod d + d := by
   have := Int.ediv_emod_unique hd (a := n) (r := n.tmod d + d) (q := n.tdiv d - 1)
   exact (this.2 ⟨by rw [Int.add_comm]; exact h1, by omega, by omega⟩).2
  exact ⟨h2.symm, h3.symm, c, by omega⟩
 ·intro h
  have := Int.ediv_emod_unique hd (a := n) (r := n.tmod d) (q := n.tdiv d)
  have := this.2 ⟨e, h, c'⟩
  exact ⟨this.1.symm, this.2.symm⟩
theorem divR_pos {n d : Int} (hd : 0 < d) : divR n d = if d - n % d ≤ n % d then n / d + 1 else n / d := if_neg (by omega)
def apB (x : TAxisPoint) : Bool := nrm x.fFrom && nrm x.fTo
def apLt (q p : TAxisPoint) : Bool := decide (q.fFrom < p.fFrom) && decide (q.fTo ≤ p.fTo)
def mpGo : Option TAxisPoint → List TAxisPoint → Bool
 | _, [] => true
 | none, p :: t => apB p && mpGo (some p) t
 | some q, p :: t => (apB p && apLt q p) && mpGo (some p) t
def pv {α : Type} (xs : List α) (k : Nat) : Option α := if k = 0 then none else xs[k - 1]?
theorem pv_succ {α : Type} (xs : List α) (k : Nat) : pv xs (k + 1) = xs[k]? := by simp [pv]
theorem pv_zero {α : Type} (xs : List α) : pv xs 0 = none := rfl
theorem pv_pos {α : Type} (xs : List α) {k : Nat} (h : 0 < k) : pv xs k = xs[k - 1]? := by rw [pv, if_neg (by omega)]
def ltO (o : Option TAxisPoint) (x : TAxisPoint) : Bool := match o with | none => true | some q => apLt q x
theorem mpGo_cons (o : Option TAxisPoint) (x : TAxisPoint) (t : List TAxisPoint) : mpGo o (x :: t) = (apB x && ltO o x && mpGo (some x) t) := by
 cases o <;> simp [mpGo, ltO]
def fixB (x : TAxisPoint) : Bool := decide (x.fFrom = x.fTo) && (decide (x.fFrom = 0) || decide (x.fFrom = 16384) || decide (x.fFrom = -16384))
def fixN : List TAxisPoint → Nat
 | [] => 0
 | x :: t => (if fixB x = true then 1 else 0) + fixN t
theorem fixN_le : ∀ xs : List TAxisPoint, fixN xs ≤ xs.length
 | [] => Nat.le_refl _
 | x :: t => by
  have := fixN_le t
  simp only [fixN, List.length_cons]
  split <;> omega
def mapB (xs : List TAxisPoint) : Bool := xs.isEmpty || (mpGo none xs && decide (fixN xs = 3) && decide (xs.length ≤ 6))
def hasB (n : Int) (xs : List TAxisPoint) : Bool := xs.any (fun x : TAxisPoint => (n == x.fFrom) && (n == x.fTo))
def cntN (n : Int) : List TAxisPoint → Nat
 | [] => 0
 | x :: t => (if (n == x.fFrom) && (n == x.fTo) then 1 else 0) + cntN n t
theorem cntN_has (n : Int) : ∀ xs : List TAxisPoint, (0 < cntN n xs) = (hasB n xs = true)
 | [] => by simp [cntN, hasB]
 | x :: t => by
  have := cntN_has n t
  simp only [cntN, hasB, List.any_cons, Bool.or_eq_true] at this ⊢
  by_cases h : ((n == x.fFrom) && (n == x.fTo)) = true
  ·simp [h]
   omega
  ·rw [if_neg h]
   simp only [Bool.eq_false_iff.2 h, Nat.zero_add]
   rw [this]
   simp
theorem fixN_sum : ∀ xs : List TAxisPoint, fixN xs = cntN (-16384) xs + cntN 0 xs + cntN 16384 xs
 | [] => rfl
 | x :: t => by
  have := fixN_sum t
  simp only [fixN, cntN, fixB, this]
  grind
theorem mpGo_low : ∀ (xs : List TAxisPoint) (q : TAxisPoint), mpGo (some q) xs = true → ∀ n : Int, n ≤ q.fFrom → cntN n xs = 0
 | [], _, _, _, _ => rfl
 | x :: t, q, h, n, hn => by
  simp only [mpGo, apLt, Bool.and_eq_true, decide_eq_true_eq] at h
  have := mpGo_low t x h.2 n (by omega)
  simp only [cntN, this]
  rw [if_neg]
  simp
  omega
theorem mpGo_one : ∀ (xs : List TAxisPoint) (o : Option TAxisPoint), mpGo o xs = true → ∀ n : Int, cntN n xs ≤ 1
 | [], _, _, _ => by simp [cntN]
 | x :: t, o, h, n => by
  rw [mpGo_cons] at h
  simp only [Bool.and_eq_true] at h
  simp only [cntN]
  split
  ·rename_i h'
   simp only [Bool.and_eq_true, beq_iff_eq] at h'
   have := mpGo_low t x h.2 n (by omega)
   omega
  ·have := mpGo_one t (some x) h.2 n
   omega
theorem mapB_has (xs : List TAxisPoint) (h : mpGo none xs = true) : decide (fixN xs = 3) = (hasB (-16384) xs && hasB 0 xs && hasB 16384 xs) := by
 have a := mpGo_one xs none h (-16384)
 have b := mpGo_one xs none h 0
 have c := mpGo_one xs none h 16384
 have a' := cntN_has (-16384) xs
 have b' := cntN_has 0 xs
 have c' := cntN_has 16384 xs
 rw [Bool.eq_iff_iff]
 simp only [Bool.and_eq_true, decide_eq_true_eq, fixN_sum, ← a', ← b', ← c']
 omega
theorem fixN_app : ∀ a b : List TAxisPoint, fixN (a ++ b) = fixN a + fixN b
 | [], b => by simp [fixN]
 | x :: t, b => by simp only [List.cons_append, fixN, fixN_app t b]; omega
theorem fixN_take {xs : List TAxisPoint} {k : Nat} {x : TAxisPoint} (hx : xs[k]? = some x) : fixN (xs.take (k + 1)) = fixN (xs.take k) + (if fixB x = true then 1 else 0) := by
 rw [List.take_add_one, hx, fixN_app]
 simp [fixN]
theorem drop_at {α : Type} {xs : List α} {k : Nat} {x : α} (hx : xs[k]? = some x) : xs.drop k = x :: xs.drop (k + 1) := by
 obtain ⟨h, rfl⟩ := List.getElem?_eq_some_iff.1 hx
 exact List.drop_eq_getElem_cons h
theorem at_lt' {α : Type} {xs : List α} {k : Nat} (h : k < xs.length) : ∃ x, xs[k]? = some x := ⟨xs[k], by simp [h]⟩
theorem mapB_no {xs : List TAxisPoint} (h0 : 0 < xs.length) (h : mpGo none xs = false) : mapB xs = false := by
 cases xs with
 | nil => exact absurd h0 (by decide)
 | cons x t => simp [mapB, h]
theorem mapB_yes {xs : List TAxisPoint} (h0 : 0 < xs.length) (h : mpGo none xs = true) : mapB xs = (decide (fixN xs = 3) && decide (xs.length ≤ 6)) := by
 cases xs with
 | nil => exact absurd h0 (by decide)
 | cons x t => simp [mapB, h]
theorem wrap_rem {n d : Int} (h0 : 0 < d) (hd : d ≤ 9223372036854775807) (n1 : -9223372036854775808 ≤ n) (n2 : n ≤ 9223372036854775807) : n % d = IntKind.i64.wrap (n - IntKind.i64.wrap (n / d * d)) := by
 have a := Int.emod_nonneg n (show d ≠ 0 by omega)
 have b := Int.emod_lt_of_pos n h0
 have e := Int.emod_add_mul_ediv n d
 rw [Int.mul_comm] at e
 generalize n / d * d = t at *
 generalize n % d = r at *
 obtain rfl : n = r + t := by omega
 simp only [IntKind.wrap_i64]
 omega
inductive D where
 | int (k : IntKind) (n : Int)
 | bool (b : Bool)
 | str (s : ByteArray)
 | st (fs : List D)
 | lst (xs : List D)
 /-- a slice whose memory is a block told elsewhere -/
 | hole (g len cap : Nat)
 /-- a function without captures -/
 | fnv (f : Fn)
 /-- a cell that is just this -/
 | raw (c : Value)
mutual
def D.size : D → Nat
 | .st fs => D.sizes fs
 | .int _ _ => 1
 | .bool _ => 1
 | .str _ => 1
 | .lst _ => 1
 | .hole _ _ _ => 1
 | .fnv _ => 1
 | .raw _ => 1
def D.sizes : List D → Nat
 | [] => 0
 | f :: fs => f.size + D.sizes fs
end
mutual
def D.flat : D → Bool
 | .st fs => D.flats fs
 | .lst _ => false
 | .int _ _ => true
 | .bool _ => true
 | .str _ => true
 | .hole _ _ _ => true
 | .fnv _ => true
 | .raw _ => true
def D.flats : List D → Bool
 | [] => true
 | f :: fs => f.flat && D.flats fs
end
def D.agg : D → Bool
 | .st _ => true
 | _ => false
def holeR (g len cap : Nat) (cs : List Value) : Prop := ∃ a, cs = [.slice a len cap] ∧ len ≤ cap ∧ cap ≤ maxLen ∧ (a = none → cap = 0) ∧ (cap = 0 ∨ a = some ⟨g, 0, none⟩)
def inR (k : IntKind) (n : Int) : Prop := k.min ≤ n ∧ n ≤ k.max
mutual
def repD (O : List Nat) (w : World) : D → List Value → Prop
 | .int k n, cs => cs = [.int k n] ∧ inR k n
 | .bool b, cs => cs = [.bool b]
 | .str s, cs => cs = [.string s] ∧ s.size ≤ maxLen
 | .st fs, cs => repDs O w fs cs
 | .hole g len cap, cs => holeR g len cap cs
 | .fnv f, cs => cs = [.func f #[] #[]]
 | .raw c, cs => cs = [c] ∧ c.oneCell' = true
 | .lst xs, cs => ∃ a cap n, cs = [.slice a xs.length cap] ∧ xs.length ≤ cap ∧ cap ≤ maxLen ∧ (a = none → cap = 0) ∧ repDe O w a n xs 0
def repDs (O : List Nat) (w : World) : List D → List Value → Prop
 | [], cs => cs = []
 | f :: fs, cs => ∃ c1 c2, cs = c1 ++ c2 ∧ repD O w f c1 ∧ repDs O w fs c2
def repDe (O : List Nat) (w : World) (a : Option Addr) (n : Nat) : List D → Nat → Prop
 | [], _ => True
 | x :: xs, i => (∃ b o ces, a = some ⟨b, o, none⟩ ∧ b ∉ O ∧ b < w.heap.size ∧ CellsAt w b (o + i * n) ces ∧ x.size = n ∧ repD O w x ces) ∧ repDe O w a n xs (i + 1)
end
mutual
def ownD (w : World) : D → List Nat → List Value → Prop
 | .int k n, F, cs => F = [] ∧ cs = [.int k n] ∧ inR k n
 | .bool b, F, cs => F = [] ∧ cs = [.bool b]
 | .str s, F, cs => F = [] ∧ cs = [.string s] ∧ s.size ≤ maxLen
 | .st fs, F, cs => ownDs w fs F cs
 | .hole g len cap, F, cs => F = [] ∧ holeR g len cap cs
 | .fnv f, F, cs => F = [] ∧ cs = [.func f #[] #[]]
 | .raw c, F, cs => F = [] ∧ cs = [c] ∧ c.oneCell' = true
 | .lst xs, F, cs => ∃ a cap, cs = [.slice a xs.length cap] ∧ xs.length ≤ cap ∧ cap ≤ maxLen ∧ (a = none → cap = 0) ∧
   ((xs = [] ∧ F = [] ∧ cap = 0) ∨ ∃ g arr t n F', a = some ⟨g, 0, none⟩ ∧ w.heap[g]? = some (.cells arr t (0, 0)) ∧ cap * n ≤ arr.size ∧ F = g :: F' ∧ ownDe w arr n xs 0 F')
def ownDs (w : World) : List D → List Nat → List Value → Prop
 | [], F, cs => F = [] ∧ cs = []
 | f :: fs, F, cs => ∃ F1 F2 c1 c2, F = F1 ++ F2 ∧ cs = c1 ++ c2 ∧ ownD w f F1 c1 ∧ ownDs w fs F2 c2
def ownDe (w : World) (arr : Array Value) (n : Nat) : List D → Nat → List Nat → Prop
 | [], _, F => F = []
 | x :: xs, i, F => ∃ F1 F2 ces, F = F1 ++ F2 ∧ x.size = n ∧ (∀ j v, ces[j]? = some v → arr[i * n + j]? = some v) ∧ ownD w x F1 ces ∧ ownDe w arr n xs (i + 1) F2
end
mutual
theorem repD_len {O : List Nat} {w : World} : ∀ (x : D) (cs : List Value), repD O w x cs → cs.length = x.size
 | .int k n, cs, h => by obtain ⟨rfl, _⟩ := h; rfl
 | .bool b, cs, h => by cases h; rfl
 | .str s, cs, h => by obtain ⟨rfl, _⟩ := h; rfl
 | .lst xs, cs, h => by obtain ⟨_, _, _, rfl, _⟩ := h; rfl
 | .hole _ _ _, cs, h => by obtain ⟨_, rfl, _⟩ := h; rfl
 | .fnv _, cs, h => by cases h; rfl
 | .raw _, cs, h => by obtain ⟨rfl, _⟩ := h; rfl
 | .st fs, cs, h => repDs_len fs cs h
theorem repDs_len {O : List Nat} {w : World} : ∀ (fs : List D) (cs : List Value), repDs O w fs cs → cs.length = D.sizes fs
 | [], cs, h => by cases h; rfl
 | f :: fs, cs, h => by
  obtain ⟨c1, c2, rfl, h1, h2⟩ := h
  rw [List.length_append, repD_len f c1 h1, repDs_len fs c2 h2]; rfl
end
mutual
theorem repD_mv {O O' : List Nat} {w w' : World} (H : ∀ b, b ∉ O → b < w.heap.size → b ∉ O' ∧ w'.heap[b]? = w.heap[b]?) : ∀ (x : D) (cs : List Value), repD O w x cs → repD O' w' x cs
 | .int k n, cs, h => h
 | .bool b, cs, h => h
 | .str s, cs, h => h
 | .hole _ _ _, cs, h => h
 | .fnv _, cs, h => h
 | .raw _, cs, h => h
 | .lst xs, cs, h => by
  obtain ⟨a, cap, n, h1, h2, h3, h4, h5⟩ := h
  exact ⟨a, cap, n, h1, h2, h3, h4, repDe_mv H a n xs 0 h5⟩
 | .st fs, cs, h => repDs_mv H fs cs h
theorem repDs_mv {O O' : List Nat} {w w' : World} (H : ∀ b, b ∉ O → b < w.heap.size → b ∉ O' ∧ w'.heap[b]? = w.heap[b]?) : ∀ (fs : List D) (cs : List Value), repDs O w fs cs → repDs O' w' fs cs
 | [], cs, h => h
 | f :: fs, cs, h => by
  obtain ⟨c1, c2, e, h1, h2⟩ := h
  exact ⟨c1, c2, e, repD_mv H f c1 h1, repDs_mv H fs c2 h2⟩
theorem repDe_mv {O O' : List Nat} {w w' : World} (H : ∀ b, b ∉ O → b < w.heap.size → b ∉ O' ∧ w'.heap[b]? = w.heap[b]?) (a : Option Addr) (n : Nat) : ∀ (xs : List D) (i : Nat), repDe O w a n xs i → repDe O' w' a n xs i
 | [], i, h => h
 | x :: xs, i, h => by
  obtain ⟨⟨b, o, ces, e, h1, h2, h3, h4, h5⟩, h6⟩ := h
  obtain ⟨k1, k2⟩ := H b h1 h2
  refine ⟨⟨b, o, ces, e, k1, ?_, fun j v hj => ?_, h4, repD_mv H x ces h5⟩, repDe_mv H a n xs (i + 1) h6⟩
  ·rcases Nat.lt_or_ge b w'.heap.size with hlt | hge
   ·exact hlt
   ·rw [Array.getElem?_eq_none hge] at k2
    rw [Array.getElem?_eq_getElem h2] at k2
    cases k2
  ·have := h3 j v hj
   simp only [World.cell?, k2] at this ⊢
   exact this
end
mutual
theorem ownD_mv {w w' : World} : ∀ (x : D) (F : List Nat) (cs : List Value), (∀ b ∈ F, w'.heap[b]? = w.heap[b]?) → ownD w x F cs → ownD w' x F cs
 | .int k n, F, cs, _, h => h
 | .bool b, F, cs, _, h => h
 | .str s, F, cs, _, h => h
 | .hole _ _ _, F, cs, _, h => h
 | .fnv _, F, cs, _, h => h
 | .raw _, F, cs, _, h => h
 | .lst xs, F, cs, H, h => by
  obtain ⟨a, cap, h1, h2, h3, h4, h5⟩ := h
  refine ⟨a, cap, h1, h2, h3, h4, ?_⟩
  rcases h5 with h5 | ⟨g, arr, t, n, F', e, hg, hc, rfl, h6⟩
  ·exact .inl h5
  ·exact .inr ⟨g, arr, t, n, F', e, by rw [H g (by simp)]; exact hg, hc, rfl, ownDe_mv arr n xs 0 F' (fun b hb => H b (by simp [hb])) h6⟩
 | .st fs, F, cs, H, h => ownDs_mv fs F cs H h
theorem ownDs_mv {w w' : World} : ∀ (fs : List D) (F : List Nat) (cs : List Value), (∀ b ∈ F, w'.heap[b]? = w.heap[b]?) → ownDs w fs F cs → ownDs w' fs F cs
 | [], F, cs, _, h => h
 | f :: fs, F, cs, H, h => by
  obtain ⟨F1, F2, c1, c2, rfl, e, h1, h2⟩ := h
  exact ⟨F1, F2, c1, c2, rfl, e, ownD_mv f F1 c1 (fun b hb => H b (by simp [hb])) h1, ownDs_mv fs F2 c2 (fun b hb => H b (by simp [hb])) h2⟩
theorem ownDe_mv {w w' : World} (arr : Array Value) (n : Nat) : ∀ (xs : List D) (i : Nat) (F : List Nat), (∀ b ∈ F, w'.heap[b]? = w.heap[b]?) → ownDe w arr n xs i F → ownDe w' arr n xs i F
 | [], i, F, _, h => h
 | x :: xs, i, F, H, h => by
  obtain ⟨F1, F2, ces, rfl, h1, h2, h3, h4⟩ := h
  exact ⟨F1, F2, ces, rfl, h1, h2, ownD_mv x F1 ces (fun b hb => H b (by simp [hb])) h3, ownDe_mv arr n xs (i + 1) F2 (fun b hb => H b (by simp [hb])) h4⟩
end
mutual
theorem ownD_rep {O : List Nat} {w : World} : ∀ (x : D) (F : List Nat) (cs : List Value), (∀ b ∈ F, b ∉ O) → ownD w x F cs → repD O w x cs
 | .int k n, F, cs, _, h => h.2
 | .bool b, F, cs, _, h => h.2
 | .str s, F, cs, _, h => h.2
 | .hole _ _ _, F, cs, _, h => h.2
 | .fnv _, F, cs, _, h => h.2
 | .raw _, F, cs, _, h => h.2
 | .lst xs, F, cs, H, h => by
  obtain ⟨a, cap, h1, h2, h3, h4, h5⟩ := h
  rcases h5 with ⟨rfl, _, _⟩ | ⟨g, arr, t, n, F', e, hg, _, rfl, h6⟩
  ·exact ⟨a, cap, 0, h1, h2, h3, h4, trivial⟩
  ·exact ⟨a, cap, n, h1, h2, h3, h4, ownDe_rep hg (H g (by simp)) e n xs 0 F' (fun b hb => H b (by simp [hb])) h6⟩
 | .st fs, F, cs, H, h => ownDs_rep fs F cs H h
theorem ownDs_rep {O : List Nat} {w : World} : ∀ (fs : List D) (F : List Nat) (cs : List Value), (∀ b ∈ F, b ∉ O) → ownDs w fs F cs → repDs O w fs cs
 | [], F, cs, _, h => h.2
 | f :: fs, F, cs, H, h => by
  obtain ⟨F1, F2, c1, c2, rfl, e, h1, h2⟩ := h
  exact ⟨c1, c2, e, ownD_rep f F1 c1 (fun b hb => H b (by simp [hb])) h1, ownDs_rep fs F2 c2 (fun b hb => H b (by simp [hb])) h2⟩
theorem ownDe_rep {O : List Nat} {w : World} {g : Nat} {arr : Array Value} {t : TypeId} {a : Option Addr} (hg : w.heap[g]? = some (.cells arr t (0, 0))) (hO : g ∉ O) (e : a = some ⟨g, 0, none⟩) (n : Nat) : ∀ (xs : List D) (i : Nat) (F : List Nat), (∀ b ∈ F, b ∉ O) → ownDe w arr n xs i F → repDe O w a n xs i
 | [], i, F, _, h => trivial
 | x :: xs, i, F, H, h => by
  obtain ⟨F1, F2, ces, rfl, h1, h2, h3, h4⟩ := h
  refine ⟨⟨g, 0, ces, e, hO, lt_of_heap hg, fun j v hj => ?_, h1, ownD_rep x F1 ces (fun b hb => H b (by simp [hb])) h3⟩, ownDe_rep hg hO e n xs (i + 1) F2 (fun b hb => H b (by simp [hb])) h4⟩
  have := h2 j v hj
  simp [World.cell?, hg, this]
end
mutual
theorem flat_own {O : List Nat} {w : World} : ∀ (x : D) (cs : List Value), x.flat = true → repD O w x cs → ownD w x [] cs
 | .int k n, cs, _, h => ⟨rfl, h⟩
 | .bool b, cs, _, h => ⟨rfl, h⟩
 | .str s, cs, _, h => ⟨rfl, h⟩
 | .hole _ _ _, cs, _, h => ⟨rfl, h⟩
 | .fnv _, cs, _, h => ⟨rfl, h⟩
 | .raw _, cs, _, h => ⟨rfl, h⟩
 | .lst xs, cs, hf, h => by cases hf
 | .st fs, cs, hf, h => flats_own fs cs hf h
theorem flats_own {O : List Nat} {w : World} : ∀ (fs : List D) (cs : List Value), D.flats fs = true → repDs O w fs cs → ownDs w fs [] cs
 | [], cs, _, h => ⟨rfl, h⟩
 | f :: fs, cs, hf, h => by
  obtain ⟨c1, c2, e, h1, h2⟩ := h
  simp only [D.flats, Bool.and_eq_true] at hf
  exact ⟨[], [], c1, c2, rfl, e, flat_own f c1 hf.1 h1, flats_own fs c2 hf.2 h2⟩
end
theorem repDe_get {O : List Nat} {w : World} {a : Option Addr} {n : Nat} : ∀ (xs : List D) (i0 : Nat), repDe O w a n xs i0 ↔ ∀ i x, xs[i]? = some x → ∃ b o ces, a = some ⟨b, o, none⟩ ∧ b ∉ O ∧ b < w.heap.size ∧ CellsAt w b (o + (i0 + i) * n) ces ∧ x.size = n ∧ repD O w x ces
 | [], i0 => by simp [repDe]
 | x :: xs, i0 => by
  rw [repDe, repDe_get xs (i0 + 1)]
  constructor
  ·rintro ⟨h1, h2⟩ i y hy
   cases i with
   | zero => simp at hy; subst hy; exact h1
   | succ i => have := h2 i y (by simpa using hy); rw [show i0 + 1 + i = i0 + (i + 1) by omega] at this; exact this
  ·intro h
   refine ⟨h 0 x rfl, fun i y hy => ?_⟩
   have := h (i + 1) y (by simpa using hy)
   rw [show i0 + (i + 1) = i0 + 1 + i by omega] at this; exact this
inductive V where
 | top
 | undef
 | d (x : D)
 | nils
 | nilp
 | own (b off len : Nat)
 | pB (b : Nat) (path : List Nat) (off : Nat)
 | pL (b i : Nat) (path : List Nat) (off : Nat)
 | pX (x : D)
 | fn (f : Fn) (caps : List V)
 | st (fs : List V)
 | tup (vs : List V)
abbrev Env := List (Nat × V)
def gt : Env → Nat → V
 | [], _ => .top
 | (k, v) :: r, i => bif Nat.beq k i then v else gt r i
inductive Blk where
 | arr (n : Nat) (xs : List D) (deep : Bool)
 | box (v : V)
 | gone
 /-- what a call that turns a block of its caller's keeps: all other memory, the heap's size, the block's place -/
 | gho (c : Nat → Option Obj) (s g sz : Nat) (t : TypeId)
 /-- block c lies at g, in a row of one cell less than sz (sz = 0: nothing is said) -/
 | pin (c g sz : Nat) (t : TypeId)
 /-- the slots of the function that called this one -/
 | keep (e : List (Nat × V)) (f : Nat → Value)
 /-- a strings.Builder (its type, the type of a byte), and what it holds -/
 | bld (T E : TypeId) (bs : List UInt8)
 /-- a map (its keys' kind of number; none: strings), its entries in order -/
 | mp (tg : Option IntKind) (es : List (D × D))
 /-- a row of bytes that was made of a string -/
 | byr (bs : List UInt8)
def Blk.live : Blk → Bool
 | .gone => false
 | .arr _ _ _ => true
 | .box _ => true
 | .gho _ _ _ _ _ => true
 | .pin _ _ _ _ => true
 | .keep _ _ => true
 | .bld _ _ _ => true
 | .mp _ _ => true
 | .byr _ => true
def pbv (g : Nat) (p : List Nat) (off : Nat) : Value := bif Nat.beq off 1000000007 then .map (some g) else bif Nat.beq off 1000000009 then .slice (some ⟨g, 0, none⟩) (p.headD 0) (p.tail.headD 0) else .pointer (some ⟨g, off, none⟩)
theorem pbv_lo {g : Nat} {p : List Nat} {off : Nat} (h : Nat.ble off 1000000 = true) : pbv g p off = .pointer (some ⟨g, off, none⟩) := by
 have h1 := Nat.le_of_ble_eq_true h
 unfold pbv
 cases hq : Nat.beq off 1000000007 with
 | true =>
  have := Nat.eq_of_beq_eq_true hq
  omega
 | false =>
  cases hr : Nat.beq off 1000000009 with
  | false => rfl
  | true =>
   have := Nat.eq_of_beq_eq_true hr
   omega
theorem pbv_one (g : Nat) (p : List Nat) (off : Nat) : (pbv g p off).oneCell' = true := by
 unfold pbv
 cases Nat.beq off 1000000007 <;> cases Nat.beq off 1000000009 <;> rfl
abbrev MM := List (Option (Nat × List Nat))
def mO : Option (Nat × List Nat) → List Nat
 | none => []
 | some (g, F) => g :: F
def MM.O (M : MM) : List Nat := M.flatMap mO
def nOf (h : List Blk) (b : Nat) : Nat :=
 match h[b]? with
 | some (.arr n _ _) => n
 | some (.byr _) => 1
 | _ => 0
def ownR (w : World) (M : MM) (h : List Blk) (b off len : Nat) (cv : Value) : Prop :=
 ∃ a cap, cv = .slice a len cap ∧ len ≤ cap ∧ cap ≤ maxLen ∧ (a = none → cap = 0) ∧
  (cap = 0 ∨ ∃ g F arr t, M[b]? = some (some (g, F)) ∧ a = some ⟨g, off * nOf h b, none⟩ ∧ w.heap[g]? = some (.cells arr t (0, 0)) ∧ (off + cap) * nOf h b ≤ arr.size)
mutual
def repC (w : World) (M : MM) (h : List Blk) : V → List Value → Prop
 | .top, cs => ∃ c : Value, cs = [c] ∧ c.oneCell' = true
 | .undef, _ => False
 | .d x, cs => repD M.O w x cs
 | .nils, cs => cs = [.slice none 0 0]
 | .nilp, cs => cs = [.pointer none]
 | .own b off len, cs => ∃ cv, cs = [cv] ∧ ownR w M h b off len cv
 | .pB b p off, cs => ∃ g F, M[b]? = some (some (g, F)) ∧ cs = [pbv g p off]
 | .pL b i _ off, cs => ∃ g F, M[b]? = some (some (g, F)) ∧ cs = [.pointer (some ⟨g, i * nOf h b + off, none⟩)]
 | .pX x, cs => ∃ b o ces, cs = [.pointer (some ⟨b, o, none⟩)] ∧ b ∉ M.O ∧ b < w.heap.size ∧ CellsAt w b o ces ∧ repD M.O w x ces
 | .fn f caps, cs => ∃ cvs, cs = [.func f #[] cvs.toArray] ∧ repK w M h caps cvs
 | .st fs, cs => repCs w M h fs cs
 | .tup _, _ => False
def repCs (w : World) (M : MM) (h : List Blk) : List V → List Value → Prop
 | [], cs => cs = []
 | f :: fs, cs => ∃ c1 c2, cs = c1 ++ c2 ∧ repC w M h f c1 ∧ repCs w M h fs c2
def repK (w : World) (M : MM) (h : List Blk) : List V → List Value → Prop
 | [], cs => cs = []
 | f :: fs, cs => ∃ c cs', cs = c :: cs' ∧ repC w M h f [c] ∧ repK w M h fs cs'
end
def V.isAgg : V → Bool
 | .st _ => true
 | .d x => x.agg
 | _ => false
def rep1 (w : World) (M : MM) (h : List Blk) (v : V) (cv : Value) : Prop :=
 if v.isAgg = true then ∃ cs : List Value, cv = .agg cs.toArray ∧ repC w M h v cs else repC w M h v [cv]
def repT (w : World) (M : MM) (h : List Blk) : List V → List Value → Prop
 | [], cs => cs = []
 | f :: fs, cs => ∃ c cs', cs = c :: cs' ∧ rep1 w M h f c ∧ repT w M h fs cs'
def rep (w : World) (M : MM) (h : List Blk) (v : V) (cv : Value) : Prop :=
 match v with
 | .top => True
 | .undef => cv = Go.undef
 | .tup vs => ∃ cvs : List Value, cv = .tuple cvs.toArray ∧ repT w M h vs cvs
 | v => rep1 w M h v cv
mutual
def V.inS (S : Nat → Prop) : V → Prop
 | .own b _ _ => S b
 | .pB b _ _ => S b
 | .pL b _ _ _ => S b
 | .fn _ caps => V.inSs S caps
 | .st fs => V.inSs S fs
 | .tup vs => V.inSs S vs
 | .top => True
 | .undef => True
 | .d _ => True
 | .nils => True
 | .nilp => True
 | .pX _ => True
def V.inSs (S : Nat → Prop) : List V → Prop
 | [] => True
 | v :: vs => v.inS S ∧ V.inSs S vs
end
mutual
theorem V.inS_all : ∀ v : V, v.inS fun _ => True
 | .own _ _ _ => trivial
 | .pB _ _ _ => trivial
 | .pL _ _ _ _ => trivial
 | .fn _ caps => V.inSs_all caps
 | .st fs => V.inSs_all fs
 | .tup vs => V.inSs_all vs
 | .top => trivial
 | .undef => trivial
 | .d _ => trivial
 | .nils => trivial
 | .nilp => trivial
 | .pX _ => trivial
theorem V.inSs_all : ∀ vs : List V, V.inSs (fun _ => True) vs
 | [] => trivial
 | v :: vs => ⟨V.inS_all v, V.inSs_all vs⟩
end
mutual
def V.kill (x : Nat) : V → V
 | .own b o l => if b = x then .top else .own b o l
 | .pB b p o => if b = x then .top else .pB b p o
 | .pL b i p o => if b = x then .top else .pL b i p o
 | .fn f caps => .fn f (V.kills x caps)
 | .st fs => .st (V.kills x fs)
 | .tup vs => .tup (V.kills x vs)
 | .top => .top
 | .undef => .undef
 | .d y => .d y
 | .nils => .nils
 | .nilp => .nilp
 | .pX y => .pX y
def V.kills (x : Nat) : List V → List V
 | [] => []
 | v :: vs => v.kill x :: V.kills x vs
end
def killE (x : Nat) : Env → Env
 | [] => []
 | (k, v) :: r => (k, v.kill x) :: killE x r
def inSE (S : Nat → Prop) : Env → Prop
 | [] => True
 | (_, v) :: r => v.inS S ∧ inSE S r
theorem inSE_all : ∀ e : Env, inSE (fun _ => True) e
 | [] => trivial
 | (_, v) :: r => ⟨V.inS_all v, inSE_all r⟩
theorem inSE_gt {S : Nat → Prop} : ∀ (e : Env), inSE S e → ∀ k, (gt e k).inS S
 | [], _, _ => trivial
 | (j, v) :: r, H, k => by
  show V.inS S (bif Nat.beq j k then v else gt r k)
  cases Nat.beq j k with
  | true => exact H.1
  | false => exact inSE_gt r H.2 k
theorem gt_kill (x : Nat) : ∀ (e : Env) (k : Nat), gt (killE x e) k = (gt e k).kill x
 | [], k => rfl
 | (j, v) :: r, k => by
  show (bif Nat.beq j k then v.kill x else gt (killE x r) k) = V.kill x (bif Nat.beq j k then v else gt r k)
  cases Nat.beq j k with
  | true => rfl
  | false => exact gt_kill x r k
def Blk.kill (x : Nat) : Blk → Blk
 | .box v => .box (v.kill x)
 | .gho c s g sz t => bif Nat.beq x 2 then .gone else .gho c s g sz t
 | .pin c g sz t => bif Nat.beq x c then .gone else .pin c g sz t
 | .keep e f => .keep (killE x e) f
 | b => b
def Blk.inS (S : Nat → Prop) : Blk → Prop
 | .box v => v.inS S
 | .gho _ _ _ _ _ => S 2
 | .pin c _ _ _ => S c
 | .keep e _ => inSE S e
 | _ => True
mutual
theorem V.kill_inS (x : Nat) : ∀ v : V, (v.kill x).inS (fun b => b ≠ x)
 | .own b _ _ => by
  unfold V.kill; split
  ·trivial
  ·assumption
 | .pB b _ _ => by
  unfold V.kill; split
  ·trivial
  ·assumption
 | .pL b _ _ _ => by
  unfold V.kill; split
  ·trivial
  ·assumption
 | .fn _ caps => V.kills_inS x caps
 | .st fs => V.kills_inS x fs
 | .tup vs => V.kills_inS x vs
 | .top => trivial
 | .undef => trivial
 | .d _ => trivial
 | .nils => trivial
 | .nilp => trivial
 | .pX _ => trivial
theorem V.kills_inS (x : Nat) : ∀ vs : List V, V.inSs (fun b => b ≠ x) (V.kills x vs)
 | [] => trivial
 | v :: vs => ⟨V.kill_inS x v, V.kills_inS x vs⟩
end
section
variable {w : World} {M : MM} {h : List Blk}
mutual
theorem repC_kill (x : Nat) : ∀ (v : V) (cs : List Value), repC w M h v cs → repC w M h (v.kill x) cs
 | .own b o l, cs, H => by
  unfold V.kill; split
  ·obtain ⟨cv, rfl, a, cap, rfl, _⟩ := H; exact ⟨_, rfl, rfl⟩
  ·exact H
 | .pB b p o, cs, H => by
  unfold V.kill; split
  ·obtain ⟨g, F, _, rfl⟩ := H; exact ⟨_, rfl, pbv_one _ _ _⟩
  ·exact H
 | .pL b i p o, cs, H => by
  unfold V.kill; split
  ·obtain ⟨g, F, _, rfl⟩ := H; exact ⟨_, rfl, rfl⟩
  ·exact H
 | .fn f caps, cs, H => by
  obtain ⟨cvs, e, H⟩ := H
  exact ⟨cvs, e, repK_kill x caps cvs H⟩
 | .st fs, cs, H => repCs_kill x fs cs H
 | .tup vs, cs, H => H.elim
 | .top, cs, H => H
 | .undef, cs, H => H
 | .d y, cs, H => H
 | .nils, cs, H => H
 | .nilp, cs, H => H
 | .pX y, cs, H => H
theorem repCs_kill (x : Nat) : ∀ (vs : List V) (cs : List Value), repCs w M h vs cs → repCs w M h (V.kills x vs) cs
 | [], cs, H => H
 | v :: vs, cs, H => by
  obtain ⟨c1, c2, e, h1, h2⟩ := H
  exact ⟨c1, c2, e, repC_kill x v c1 h1, repCs_kill x vs c2 h2⟩
theorem repK_kill (x : Nat) : ∀ (vs : List V) (cs : List Value), repK w M h vs cs → repK w M h (V.kills x vs) cs
 | [], cs, H => H
 | v :: vs, cs, H => by
  obtain ⟨c1, c2, e, h1, h2⟩ := H
  exact ⟨c1, c2, e, repC_kill x v [c1] h1, repK_kill x vs c2 h2⟩
end
theorem V.kill_agg (x : Nat) : ∀ v : V, (v.kill x).isAgg = v.isAgg
 | .own _ _ _ => by unfold V.kill; split <;> rfl
 | .pB _ _ _ => by unfold V.kill; split <;> rfl
 | .pL _ _ _ _ => by unfold V.kill; split <;> rfl
 | .fn _ _ => rfl
 | .st _ => rfl
 | .tup _ => rfl
 | .top => rfl
 | .undef => rfl
 | .d _ => rfl
 | .nils => rfl
 | .nilp => rfl
 | .pX _ => rfl
theorem rep1_kill (x : Nat) (v : V) (cv : Value) (H : rep1 w M h v cv) : rep1 w M h (v.kill x) cv := by
 unfold rep1 at *
 rw [V.kill_agg]
 split
 ·rename_i h1
  rw [if_pos h1] at H
  obtain ⟨cs, e, H⟩ := H
  exact ⟨cs, e, repC_kill x v cs H⟩
 ·rename_i h1
  rw [if_neg h1] at H
  exact repC_kill x v _ H
theorem repT_kill (x : Nat) : ∀ (vs : List V) (cs : List Value), repT w M h vs cs → repT w M h (V.kills x vs) cs
 | [], cs, H => H
 | v :: vs, cs, H => by
  obtain ⟨c1, c2, e, h1, h2⟩ := H
  exact ⟨c1, c2, e, rep1_kill x v c1 h1, repT_kill x vs c2 h2⟩
theorem rep_of_rep1 {v : V} {cv : Value} (H : rep1 w M h v cv) : rep w M h v cv := by
 cases v <;> first | trivial | exact H | exact H.elim
theorem rep_kill (x : Nat) (v : V) (cv : Value) (H : rep w M h v cv) : rep w M h (v.kill x) cv := by
 cases v with
 | tup vs =>
  obtain ⟨cvs, e, H⟩ := H
  exact ⟨cvs, e, repT_kill x vs cvs H⟩
 | top => trivial
 | undef => exact H
 | own b o l => exact rep_of_rep1 (rep1_kill x _ _ H)
 | pB b p o => exact rep_of_rep1 (rep1_kill x _ _ H)
 | pL b i p o => exact rep_of_rep1 (rep1_kill x _ _ H)
 | fn f caps => exact rep_of_rep1 (rep1_kill x _ _ H)
 | st fs => exact rep_of_rep1 (rep1_kill x _ _ H)
 | d y => exact H
 | nils => exact H
 | nilp => exact H
 | pX y => exact H
end
structure Mv (S : Nat → Prop) (w : World) (M : MM) (h : List Blk) (w' : World) (M' : MM) (h' : List Blk) : Prop where
 ext : ∀ b : Nat, b ∉ M.O → b < w.heap.size → b ∉ M'.O ∧ w'.heap[b]? = w.heap[b]?
 ids : ∀ (b g : Nat) (F : List Nat), S b → M[b]? = some (some (g, F)) → ∃ F', M'[b]? = some (some (g, F'))
 row : ∀ (b g : Nat) (F : List Nat) (arr : Array Value) (t : TypeId), S b → M[b]? = some (some (g, F)) → w.heap[g]? = some (.cells arr t (0, 0)) → ∃ arr' : Array Value, w'.heap[g]? = some (.cells arr' t (0, 0)) ∧ arr'.size = arr.size
 nof : ∀ (b g : Nat) (F : List Nat), S b → M[b]? = some (some (g, F)) → nOf h' b = nOf h b
 sz : w.heap.size ≤ w'.heap.size
section
variable {S : Nat → Prop} {w w' : World} {M M' : MM} {h h' : List Blk}
mutual
theorem repC_mv (m : Mv S w M h w' M' h') : ∀ (v : V) (cs : List Value), v.inS S → repC w M h v cs → repC w' M' h' v cs
 | .own b o l, cs, hS, H => by
  obtain ⟨cv, e, a, cap, h1, h2, h3, h4, h5⟩ := H
  refine ⟨cv, e, a, cap, h1, h2, h3, h4, ?_⟩
  rcases h5 with h5 | ⟨g, F, arr, t, k1, k2, k3, k4⟩
  ·exact .inl h5
  ·obtain ⟨F', e1⟩ := m.ids b g F hS k1
   obtain ⟨arr', e2, e3⟩ := m.row b g F arr t hS k1 k3
   have e4 := m.nof b g F hS k1
   exact .inr ⟨g, F', arr', t, e1, by rw [e4]; exact k2, e2, by rw [e4, e3]; exact k4⟩
 | .pB b p o, cs, hS, H => by
  obtain ⟨g, F, k1, e⟩ := H
  obtain ⟨F', e1⟩ := m.ids b g F hS k1
  exact ⟨g, F', e1, e⟩
 | .pL b i p o, cs, hS, H => by
  obtain ⟨g, F, k1, e⟩ := H
  obtain ⟨F', e1⟩ := m.ids b g F hS k1
  exact ⟨g, F', e1, by rw [m.nof b g F hS k1]; exact e⟩
 | .fn f caps, cs, hS, H => by
  obtain ⟨cvs, e, H⟩ := H
  exact ⟨cvs, e, repK_mv m caps cvs hS H⟩
 | .st fs, cs, hS, H => repCs_mv m fs cs hS H
 | .tup vs, cs, _, H => H.elim
 | .top, cs, _, H => H
 | .undef, cs, _, H => H
 | .d y, cs, _, H => repD_mv m.ext y cs H
 | .nils, cs, _, H => H
 | .nilp, cs, _, H => H
 | .pX y, cs, _, H => by
  obtain ⟨b, o, ces, e, h1, h2, h3, h4⟩ := H
  obtain ⟨k1, k2⟩ := m.ext b h1 h2
  refine ⟨b, o, ces, e, k1, ?_, fun j v hj => ?_, repD_mv m.ext y ces h4⟩
  ·rcases Nat.lt_or_ge b w'.heap.size with hlt | hge
   ·exact hlt
   ·rw [Array.getElem?_eq_none hge] at k2
    rw [Array.getElem?_eq_getElem h2] at k2
    cases k2
  ·have := h3 j v hj
   simp only [World.cell?, k2] at this ⊢
   exact this
theorem repCs_mv (m : Mv S w M h w' M' h') : ∀ (vs : List V) (cs : List Value), V.inSs S vs → repCs w M h vs cs → repCs w' M' h' vs cs
 | [], cs, _, H => H
 | v :: vs, cs, hS, H => by
  obtain ⟨c1, c2, e, h1, h2⟩ := H
  exact ⟨c1, c2, e, repC_mv m v c1 hS.1 h1, repCs_mv m vs c2 hS.2 h2⟩
theorem repK_mv (m : Mv S w M h w' M' h') : ∀ (vs : List V) (cs : List Value), V.inSs S vs → repK w M h vs cs → repK w' M' h' vs cs
 | [], cs, _, H => H
 | v :: vs, cs, hS, H => by
  obtain ⟨c1, c2, e, h1, h2⟩ := H
  exact ⟨c1, c2, e, repC_mv m v [c1] hS.1 h1, repK_mv m vs c2 hS.2 h2⟩
end
theorem rep1_mv (m : Mv S w M h w' M' h') (v : V) (cv : Value) (hS : v.inS S) (H : rep1 w M h v cv) : rep1 w' M' h' v cv := by
 unfold rep1 at *
 split
 ·rename_i h1
  rw [if_pos h1] at H
  obtain ⟨cs, e, H⟩ := H
  exact ⟨cs, e, repC_mv m v cs hS H⟩
 ·rename_i h1
  rw [if_neg h1] at H
  exact repC_mv m v _ hS H
theorem repT_mv (m : Mv S w M h w' M' h') : ∀ (vs : List V) (cs : List Value), V.inSs S vs → repT w M h vs cs → repT w' M' h' vs cs
 | [], cs, _, H => H
 | v :: vs, cs, hS, H => by
  obtain ⟨c1, c2, e, h1, h2⟩ := H
  exact ⟨c1, c2, e, rep1_mv m v c1 hS.1 h1, repT_mv m vs c2 hS.2 h2⟩
theorem rep_mv (m : Mv S w M h w' M' h') (v : V) (cv : Value) (hS : v.inS S) (H : rep w M h v cv) : rep w' M' h' v cv := by
 cases v with
 | tup vs =>
  obtain ⟨cvs, e, H⟩ := H
  exact ⟨cvs, e, repT_mv m vs cvs hS H⟩
 | top => trivial
 | undef => exact H
 | own b o l => exact rep1_mv m _ _ hS H
 | pB b p o => exact rep1_mv m _ _ hS H
 | pL b i p o => exact rep1_mv m _ _ hS H
 | fn f caps => exact rep1_mv m _ _ hS H
 | st fs => exact rep1_mv m _ _ hS H
 | d y => exact rep1_mv m _ _ hS H
 | nils => exact H
 | nilp => exact H
 | pX y => exact rep1_mv m _ _ hS H
end
def extDe (O : List Nat) (w : World) (arr : Array Value) (n : Nat) : List D → Nat → Prop
 | [], _ => True
 | x :: xs, i => (∃ ces : List Value, x.size = n ∧ (∀ j v, ces[j]? = some v → arr[i * n + j]? = some v) ∧ repD O w x ces) ∧ extDe O w arr n xs (i + 1)
def rowR (w : World) (v : Value) (F : List Nat) (E : TypeId) (bs : List UInt8) : Prop :=
 (v = .slice none 0 0 ∧ bs = [] ∧ F = []) ∨
 ∃ r cap cur fz, v = .slice (some ⟨r, 0, none⟩) bs.length cap ∧ F = [r] ∧ w.heap[r]? = some (.cells cur E fz) ∧ fz.2 ≤ bs.length ∧ bs.length ≤ cap ∧ cap ≤ maxLen ∧ cur.size = cap ∧
  cur.toList.take bs.length = (bs.map fun c => Value.int .u8 (c.toNat : Int)) ∧ 0 < cap
def bldR (w : World) (g : Nat) (F : List Nat) (T E : TypeId) (bs : List UInt8) : Prop :=
 ∃ p v, w.heap[g]? = some (.cells #[p, v] T (0, 0)) ∧ (p = .pointer none ∨ p = .pointer (some ⟨g, 0, none⟩)) ∧ rowR w v F E bs
def entR (w : World) (M : MM) (h : List Blk) : List (D × D) → List MapEntry → Prop
 | [], l => l = []
 | (k, v) :: es, l => ∃ x l', l = x :: l' ∧ rep1 w M h (.d k) x.key ∧ rep1 w M h (.d v) x.val ∧ entR w M h es l'
def keyK : Option IntKind → D → Bool
 | some k, .int k' _ => decide (k' = k)
 | none, .str _ => true
 | _, _ => false
def byOK (arr : Array Value) (fz : Nat × Nat) (bs : List UInt8) : Prop := arr.size ≤ fz.1 ∧ fz.2 ≠ 0 ∧ bs.length ≤ arr.size ∧ bs.length ≤ maxLen ∧ ∀ (j : Nat) (c : UInt8), bs[j]? = some c → arr[j]? = some (Value.int .u8 (c.toNat : Nat))
def BRep (w : World) (M : MM) (h : List Blk) (k : Blk) (m : Option (Nat × List Nat)) : Prop :=
 match k, m with
 | .gone, _ => True
 | .arr _ xs _, none => xs = []
 | .arr n xs dp, some (g, F) => ∃ arr t, w.heap[g]? = some (.cells arr t (0, 0)) ∧ xs.length * n ≤ arr.size ∧ (if dp = true then ownDe w arr n xs 0 F else F = [] ∧ extDe M.O w arr n xs 0)
 | .box v, some (g, F) => F = [] ∧ ∃ arr t, w.heap[g]? = some (.cells arr t (0, 0)) ∧ repC w M h v arr.toList
 | .box _, none => False
 | .gho c s g sz t, _ => (∀ b o, c b = some o → b ∉ M.O ∧ w.heap[b]? = some o) ∧ s ≤ w.heap.size ∧ ∃ F, M[2]? = some (some (g, F)) ∧ (sz = 0 ∨ ∃ arr, w.heap[g]? = some (.cells arr t (0, 0)) ∧ arr.size + 1 = sz)
 | .pin c g sz t, _ => sz = 0 ∨ ∃ F arr, M[c]? = some (some (g, F)) ∧ w.heap[g]? = some (.cells arr t (0, 0)) ∧ arr.size + 1 = sz
 | .keep e f, _ => ∀ k, rep w M h (gt e k) (f k)
 | .bld _ _ _, none => False
 | .bld T E bs, some (g, F) => bldR w g F T E bs
 | .mp _ _, none => False
 | .byr _, none => False
 | .byr bs, some (g, F) => F = [] ∧ ∃ arr t fz, w.heap[g]? = some (.cells arr t fz) ∧ byOK arr fz bs
 | .mp tg es, some (g, F) => F = [] ∧ (∀ p ∈ es, keyK tg p.1 = true) ∧ ∃ ents ck, w.heap[g]? = some (.map ents ck) ∧ entR w M h es ents.toList
structure MInv (B : Nat) (w : World) (M : MM) (h : List Blk) : Prop where
 len : M.length = h.length
 blk : ∀ (b : Nat) (k : Blk) (m : Option (Nat × List Nat)), h[b]? = some k → M[b]? = some m → BRep w M h k m
 nd : M.O.Nodup
 lo : ∀ (b : Nat) (k : Blk) (m : Option (Nat × List Nat)), h[b]? = some k → M[b]? = some m → k.live = true → ∀ g ∈ mO m, B ≤ g
 hi : ∀ g ∈ M.O, g < w.heap.size
theorem extDe_mv {O O' : List Nat} {w w' : World} {arr : Array Value} {n : Nat} (H : ∀ b, b ∉ O → b < w.heap.size → b ∉ O' ∧ w'.heap[b]? = w.heap[b]?) : ∀ (xs : List D) (i : Nat), extDe O w arr n xs i → extDe O' w' arr n xs i
 | [], _, h => h
 | x :: xs, i, ⟨⟨ces, h1, h2, h3⟩, h4⟩ => ⟨⟨ces, h1, h2, repD_mv H x ces h3⟩, extDe_mv H xs (i + 1) h4⟩
theorem entR_mv {S : Nat → Prop} {w w' : World} {M M' : MM} {h h' : List Blk} (mv : Mv S w M h w' M' h') : ∀ (es : List (D × D)) (l : List MapEntry), entR w M h es l → entR w' M' h' es l
 | [], l, H => H
 | (k, v) :: es, l, H => by
  obtain ⟨x, l', e, h1, h2, h3⟩ := H
  exact ⟨x, l', e, rep1_mv mv _ _ trivial h1, rep1_mv mv _ _ trivial h2, entR_mv mv es l' h3⟩
theorem BRep_mv {S : Nat → Prop} {w w' : World} {M M' : MM} {h h' : List Blk} (mv : Mv S w M h w' M' h') {k : Blk} {m : Option (Nat × List Nat)} (hk : k.inS S)
  (hb : ∀ b ∈ mO m, w'.heap[b]? = w.heap[b]?) (H : BRep w M h k m) : BRep w' M' h' k m := by
 cases k with
 | gone => exact H
 | arr n xs dp =>
  cases m with
  | none => exact H
  | some p =>
   obtain ⟨g, F⟩ := p
   obtain ⟨arr, t, h1, h2, h3⟩ := H
   refine ⟨arr, t, by rw [hb g (by simp [mO])]; exact h1, h2, ?_⟩
   split
   ·rename_i hd
    rw [if_pos hd] at h3
    exact ownDe_mv arr n xs 0 F (fun b h => hb b (by simp [mO, h])) h3
   ·rename_i hd
    rw [if_neg hd] at h3
    exact ⟨h3.1, extDe_mv mv.ext xs 0 h3.2⟩
 | box v =>
  cases m with
  | none => exact H
  | some p =>
   obtain ⟨g, F⟩ := p
   obtain ⟨rfl, arr, t, h1, h2⟩ := H
   exact ⟨rfl, arr, t, by rw [hb g (by simp [mO])]; exact h1, repC_mv mv v _ hk h2⟩
 | gho c s g sz t =>
  obtain ⟨h1, h2, F, h3, h4⟩ := H
  obtain ⟨F', k1⟩ := mv.ids 2 g F hk h3
  refine ⟨fun b o hc => ?_, Nat.le_trans h2 mv.sz, F', k1, h4.imp id fun ⟨arr, h4, h5⟩ => (mv.row 2 g F arr t hk h3 h4).elim fun arr' ⟨k2, k3⟩ => ⟨arr', k2, by rw [k3]; exact h5⟩⟩
  obtain ⟨q1, q2⟩ := h1 b o hc
  obtain ⟨r1, r2⟩ := mv.ext b q1 (lt_of_heap q2)
  exact ⟨r1, by rw [r2]; exact q2⟩
 | pin c g sz t =>
  rcases H with H | ⟨F, arr, h3, h4, h5⟩
  ·exact .inl H
  ·obtain ⟨F', k1⟩ := mv.ids c g F hk h3
   obtain ⟨arr', k2, k3⟩ := mv.row c g F arr t hk h3 h4
   exact .inr ⟨F', arr', k1, k2, by rw [k3]; exact h5⟩
 | keep e f => exact fun k => rep_mv mv _ _ (inSE_gt e hk k) (H k)
 | byr bs =>
  cases m with
  | none => exact H
  | some p =>
   obtain ⟨g, F⟩ := p
   obtain ⟨rfl, arr, t, fz, h1, h2⟩ := H
   exact ⟨rfl, arr, t, fz, by rw [hb g (by simp [mO])]; exact h1, h2⟩
 | mp tg es =>
  cases m with
  | none => exact H
  | some p =>
   obtain ⟨g, F⟩ := p
   obtain ⟨rfl, hk, ents, ck, h1, h2⟩ := H
   exact ⟨rfl, hk, ents, ck, by rw [hb g (by simp [mO])]; exact h1, entR_mv mv es _ h2⟩
 | bld T E bs =>
  cases m with
  | none => exact H
  | some p =>
   obtain ⟨g, F⟩ := p
   obtain ⟨p, v, h1, h2, h3⟩ := H
   refine ⟨p, v, by rw [hb g (by simp [mO])]; exact h1, h2, ?_⟩
   rcases h3 with h3 | ⟨r, cap, cur, fz, e1, rfl, e3, e4⟩
   ·exact .inl h3
   ·exact .inr ⟨r, cap, cur, fz, e1, rfl, by rw [hb r (by simp [mO])]; exact e3, e4⟩
theorem mem_O {M : MM} {b : Nat} {m : Option (Nat × List Nat)} (hm : M[b]? = some m) {g : Nat} (hg : g ∈ mO m) : g ∈ M.O :=
 List.mem_flatMap.2 ⟨m, List.mem_of_getElem? hm, hg⟩
theorem O_app (M M' : MM) : MM.O (M ++ M') = M.O ++ M'.O := List.flatMap_append
theorem O_one (m : Option (Nat × List Nat)) : MM.O [m] = mO m := by simp [MM.O]
theorem mem_O_get {M : MM} {g : Nat} (h : g ∈ M.O) : ∃ (b : Nat) (m : Option (Nat × List Nat)), M[b]? = some m ∧ g ∈ mO m := by
 obtain ⟨m, hm, hg⟩ := List.mem_flatMap.1 h
 obtain ⟨b, hb⟩ := List.getElem?_of_mem hm
 exact ⟨b, m, hb, hg⟩
theorem Ext.mv {w w' : World} {M : MM} {h : List Blk} (hx : Ext w w') (hi : ∀ g ∈ M.O, g < w.heap.size) : Mv (fun _ => True) w M h w' M h where
 ext b hb hlt := ⟨hb, hx.below.block b hlt⟩
 ids b g F _ hM := ⟨F, hM⟩
 row b g F arr t _ hM hg := ⟨arr, by rw [hx.below.block g (hi g (mem_O hM (by simp [mO])))]; exact hg, rfl⟩
 nof _ _ _ _ _ := rfl
 sz := hx.size
theorem MInv.ext {B : Nat} {w w' : World} {M : MM} {h : List Blk} (H : MInv B w M h) (hx : Ext w w') : MInv B w' M h where
 len := H.len
 blk b k m hk hm := BRep_mv (hx.mv H.hi) (by cases k <;> first | trivial | exact V.inS_all _ | exact inSE_all _) (fun c hc => hx.below.block c (H.hi c (mem_O hm hc))) (H.blk b k m hk hm)
 nd := H.nd
 lo := H.lo
 hi g hg := Nat.lt_of_lt_of_le (H.hi g hg) hx.size
theorem get_app_left {α : Type} {M N : List α} {b : Nat} {m : α} (h : M[b]? = some m) : (M ++ N)[b]? = some m := by
 rw [List.getElem?_append_left (List.getElem?_eq_some_iff.1 h).1]; exact h
theorem nOf_app {h hn : List Blk} {b : Nat} (hb : b < h.length) : nOf (h ++ hn) b = nOf h b := by
 unfold nOf; rw [List.getElem?_append_left hb]
theorem push_mv {w w' : World} {M Mn : MM} {h hn : List Blk} (hl : M.length = h.length) (hx : Ext w w') (hi : ∀ g ∈ M.O, g < w.heap.size) (hn' : ∀ g ∈ Mn.O, w.heap.size ≤ g) : Mv (fun _ => True) w M h w' (M ++ Mn) (h ++ hn) where
 ext b hb hlt := ⟨by
  rw [O_app, List.mem_append]
  rintro (h1 | h1)
  ·exact hb h1
  ·have := hn' b h1; omega, hx.below.block b hlt⟩
 ids b g F _ hM := ⟨F, get_app_left hM⟩
 row b g F arr t _ hM hg := ⟨arr, by rw [hx.below.block g (hi g (mem_O hM (by simp [mO])))]; exact hg, rfl⟩
 nof b g F _ hM := nOf_app (by rw [← hl]; exact (List.getElem?_eq_some_iff.1 hM).1)
 sz := hx.size
theorem MInv.push {B : Nat} {w w' : World} {M Mn : MM} {h hn : List Blk} (H : MInv B w M h) (hB : B ≤ w.heap.size) (hx : Ext w w') (hl : Mn.length = hn.length) (hnd : Mn.O.Nodup)
  (hlo : ∀ g ∈ Mn.O, w.heap.size ≤ g) (hhi : ∀ g ∈ Mn.O, g < w'.heap.size)
  (hb : ∀ (b : Nat) (k : Blk) (m : Option (Nat × List Nat)), hn[b]? = some k → Mn[b]? = some m → BRep w' (M ++ Mn) (h ++ hn) k m) : MInv B w' (M ++ Mn) (h ++ hn) where
 len := by simp [H.len, hl]
 blk b k m hk hm := by
  rcases Nat.lt_or_ge b h.length with hlt | hge
  ·rw [List.getElem?_append_left hlt] at hk
   rw [List.getElem?_append_left (by rw [H.len]; exact hlt)] at hm
   exact BRep_mv (push_mv H.len hx H.hi hlo) (by cases k <;> first | trivial | exact V.inS_all _ | exact inSE_all _) (fun c hc => hx.below.block c (H.hi c (mem_O hm hc))) (H.blk b k m hk hm)
  ·rw [List.getElem?_append_right hge] at hk
   rw [List.getElem?_append_right (by rw [H.len]; exact hge), H.len] at hm
   exact hb _ k m hk hm
 nd := by
  rw [O_app]
  refine List.nodup_append.2 ⟨H.nd, hnd, fun a ha b hb' e => ?_⟩
  subst e
  have := H.hi a ha
  have := hlo a hb'
  omega
 lo b k m hk hm hv g hg := by
  rcases Nat.lt_or_ge b h.length with hlt | hge
  ·rw [List.getElem?_append_left hlt] at hk
   rw [List.getElem?_append_left (by rw [H.len]; exact hlt)] at hm
   exact H.lo b k m hk hm hv g hg
  ·rw [List.getElem?_append_right (by rw [H.len]; exact hge), H.len] at hm
   exact Nat.le_trans hB (hlo g (mem_O hm hg))
 hi g hg := by
  rw [O_app, List.mem_append] at hg
  rcases hg with hg | hg
  ·exact Nat.lt_of_lt_of_le (H.hi g hg) hx.size
  ·exact hhi g hg
inductive TK where
 | int (k : IntKind)
 | bool
 | str
 | ptr (e : Nat)
 | sl (e : Nat)
 | strct (fs : List (Nat × Nat))
 | ar (n e : Nat)
 | fn
 | other
 /-- a strings.Builder; the type of a byte -/
 | bld (e : Nat)
 /-- a map: the types of keys and values -/
 | mp (k e : Nat)
structure TI where
 kind : TK
 size : Nat
 bytes : Nat
 zero : V
 eq : Bool := false
def TI.agg (i : TI) : Bool :=
 match i.kind with
 | .strct _ => true
 | .ar _ _ => true
 | .bld _ => true
 | _ => false
abbrev TT := Nat → Option TI
def TK.ok : TypeDesc → TK → Prop
 | .int k, .int k' => k = k'
 | .bool, .bool => True
 | .string, .str => True
 | .pointer e, .ptr e' => e = e'
 | .slice e, .sl e' => e = e'
 | .struct fs, .strct l => fs.toList.map (fun f => (f.offset, f.type)) = l
 | .array n e, .ar n' e' => n = n' ∧ e = e'
 | .func _ _ _, .fn => True
 | .struct _, .bld _ => True
 | .map k e, .mp k' e' => k = k' ∧ e = e'
 | _, _ => False
structure TIok (P : Program) (t : Nat) (i : TI) : Prop where
 ex : ∃ f d z, P.info? t = some f ∧ f.size = i.size ∧ f.bytes = i.bytes ∧ f.zero = some z ∧ P.underlying t = some d ∧ TK.ok d i.kind ∧
  (∀ w M h, rep1 w M h i.zero z) ∧ z.cells.size = i.size ∧ (i.agg = false → i.size = 1)
 eqs : i.eq = true → P.stoodInHeld t = false ∧ P.eqGuardType P.depth t = false ∧ ((P.fieldsOf t).toList.all fun f => f.name != "_") = true
def TOk (P : Program) (tt : TT) : Prop := ∀ t i, tt t = some i → TIok P t i
def killH (x : Nat) : List Blk → List Blk
 | [] => []
 | b :: r => b.kill x :: killH x r
def ofC : Value → V
 | .int k n => .d (.int k n)
 | .bool b => .d (.bool b)
 | .string s => .d (.str s)
 | .slice none 0 0 => .nils
 | .pointer none => .nilp
 | _ => .top
def ev (e : Env) : Operand → V
 | .tmp t => gt e t
 | .const v => ofC v
 | .func f => .fn (.func f) []
 | .global _ => .top
def evs (e : Env) : List Operand → List V
 | [] => []
 | x :: xs => ev e x :: evs e xs
mutual
def V.size : V → Nat
 | .d x => x.size
 | .st fs => V.sizes fs
 | .top => 1
 | .undef => 0
 | .nils => 1
 | .nilp => 1
 | .own _ _ _ => 1
 | .pB _ _ _ => 1
 | .pL _ _ _ _ => 1
 | .pX _ => 1
 | .fn _ _ => 1
 | .tup _ => 0
def V.sizes : List V → Nat
 | [] => 0
 | f :: fs => f.size + V.sizes fs
end
def V.okc : V → Bool
 | .top => false
 | .undef => false
 | .tup _ => false
 | _ => true
def fldV : List V → Nat → Nat → Option (V × Nat)
 | [], _, _ => none
 | v :: _, 0, off => some (v, off)
 | v :: vs, i + 1, off => fldV vs i (off + v.size)
def fldD : List D → Nat → Nat → Option (D × Nat)
 | [], _, _ => none
 | v :: _, 0, off => some (v, off)
 | v :: vs, i + 1, off => fldD vs i (off + v.size)
def D.sub : D → List Nat → Nat → Option (D × Nat)
 | x, [], off => some (x, off)
 | .st ds, i :: p, off => match fldD ds i off with
  | some (u, o) => u.sub p o
  | none => none
 | _, _ :: _, _ => none
def V.sub : V → List Nat → Nat → Option (V × Nat)
 | v, [], off => some (v, off)
 | .st fs, i :: p, off => match fldV fs i off with
  | some (u, o) => u.sub p o
  | none => none
 | .d x, i :: p, off => match x.sub (i :: p) off with
  | some (u, o) => some (.d u, o)
  | none => none
 | _, _ :: _, _ => none
def setN {α : Type} : List α → Nat → α → List α
 | [], _, _ => []
 | _ :: vs, 0, x => x :: vs
 | v :: vs, i + 1, x => v :: setN vs i x
def D.upd : D → List Nat → D → Option D
 | _, [], y => some y
 | .st ds, i :: p, y => match fldD ds i 0 with
  | some (u, _) => match u.upd p y with
   | some u' => some (.st (setN ds i u'))
   | none => none
  | none => none
 | _, _ :: _, _ => none
def toVs : List D → List V
 | [] => []
 | x :: xs => .d x :: toVs xs
def V.upd : V → List Nat → V → Option V
 | _, [], y => some y
 | .st fs, i :: p, y => match fldV fs i 0 with
  | some (u, _) => match u.upd p y with
   | some u' => some (.st (setN fs i u'))
   | none => none
  | none => none
 | .d (.st ds), i :: p, y => match fldD ds i 0 with
  | some (u, _) => match (V.d u).upd p y with
   | some u' => some (.st (setN (toVs ds) i u'))
   | none => none
  | none => none
 | _, _ :: _, _ => none
def BIf (b : Bool) (A B : Prop) : Prop :=
 match b with
 | true => A
 | false => B
theorem BIf.mk {b : Bool} {A B : Prop} (h1 : b = true → A) (h2 : b = false → B) : BIf b A B := by
 cases b
 ·exact h2 rfl
 ·exact h1 rfl
theorem BIf.elim {b : Bool} {A B C : Prop} (h : BIf b A B) (h1 : b = true → A → C) (h2 : b = false → B → C) : C := by
 cases b
 ·exact h2 rfl h
 ·exact h1 rfl h
structure ArW (k : IntKind) (raw : Int) (K : Int → Prop) : Prop where
 ex : ∃ z, z = k.wrap raw ∧ K z
structure NzW (b : Int) (K : Prop) : Prop where
 ex : b ≠ 0 ∧ K
structure IxW (i : Int) (xs : List D) (K : D → Prop) : Prop where
 ex : ∃ y, 0 ≤ i ∧ xs[i.toNat]? = some y ∧ K y
structure IoW (i : Int) (len : Nat) (K : Nat → Prop) : Prop where
 ex : 0 ≤ i ∧ i < (len : Int) ∧ K i.toNat
structure EoW (k : Nat) (xs : List D) (K : D → Prop) : Prop where
 ex : ∃ y, xs[k]? = some y ∧ K y
structure ChW (i : Int) (s : ByteArray) (K : UInt8 → Prop) : Prop where
 ex : ∃ c : UInt8, 0 ≤ i ∧ s[i.toNat]? = some c ∧ K c
structure BnW (i : Int) (K : Nat → Prop) : Prop where
 ex : 0 ≤ i ∧ K i.toNat
structure SlW (l r n : Nat) (K : Prop) : Prop where
 ex : l ≤ r ∧ r ≤ n ∧ K
structure SzW (n : Nat) (xs : List D) (K : Prop) : Prop where
 ex : (∀ y ∈ xs, y.size = n) ∧ K
def bD (c : UInt8) : D := .int .u8 c.toNat
structure StW (xs : List D) (K : ByteArray → Prop) : Prop where
 ex : ∃ s : ByteArray, xs = s.data.toList.map bD ∧ K s
structure EqW (a b : Nat) (K : Prop) : Prop where
 ex : a = b ∧ K
structure CatW (a b : ByteArray) (K : Prop) : Prop where
 ex : a.size + b.size ≤ maxLen ∧ K
def bndV (o : Option V) (d : Nat) (K : Nat → Prop) : Prop :=
 match o with
 | none => K d
 | some (.d (.int _ i)) => BnW i K
 | _ => False
def binI (op : BinOp) (k : IntKind) (a b : Int) (K : V → Prop) : Prop :=
 match op with
 | .add => ArW k (a + b) fun z => K (.d (.int k z))
 | .sub => ArW k (a - b) fun z => K (.d (.int k z))
 | .mul => ArW k (a * b) fun z => K (.d (.int k z))
 | .quo => NzW b (ArW k (a.tdiv b) fun z => K (.d (.int k z)))
 | .rem => NzW b (K (.d (.int k (a.tmod b))))
 | .and => ArW k (BitVec.ofInt k.bits a &&& BitVec.ofInt k.bits b).toNat fun z => K (.d (.int k z))
 | .or => ArW k (BitVec.ofInt k.bits a ||| BitVec.ofInt k.bits b).toNat fun z => K (.d (.int k z))
 | .xor => ArW k (BitVec.ofInt k.bits a ^^^ BitVec.ofInt k.bits b).toNat fun z => K (.d (.int k z))
 | .eql => K (.d (.bool (a == b)))
 | .neq => K (.d (.bool (a != b)))
 | .lss => K (.d (.bool (decide (a < b))))
 | .leq => K (.d (.bool (decide (a ≤ b))))
 | .gtr => K (.d (.bool (decide (b < a))))
 | .geq => K (.d (.bool (decide (b ≤ a))))
 | _ => False
def binS (op : BinOp) (a b : ByteArray) (K : V → Prop) : Prop :=
 match op with
 | .add => CatW a b (K (.d (.str (a ++ b))))
 | .eql => K (.d (.bool (a.toList == b.toList)))
 | .neq => K (.d (.bool (!(a.toList == b.toList))))
 | .lss => K (.d (.bool (Op.bytesLess a.toList b.toList)))
 | .gtr => K (.d (.bool (!(Op.bytesLess a.toList b.toList || a.toList == b.toList))))
 | .leq => K (.d (.bool (Op.bytesLess a.toList b.toList || a.toList == b.toList)))
 | .geq => K (.d (.bool (!Op.bytesLess a.toList b.toList)))
 | _ => False
structure NlW (n : Nat) (A B : Prop) : Prop where
 ex : (n = 0 → A) ∧ B
def nlV (tt : TT) (op : BinOp) (t n : Nat) (K : V → Prop) : Prop :=
 match tt t with
 | some { kind := .sl _, .. } => (match op with
  | .eql => NlW n (K (.d (.bool true))) (K (.d (.bool false)))
  | .neq => NlW n (K (.d (.bool false))) (K (.d (.bool true)))
  | _ => False)
 | _ => False
structure ShW (p : Int) (K : Int → Prop) : Prop where
 ex : ∃ q, q = p ∧ 0 < q ∧ K q
def shV (op : BinOp) (k : IntKind) (a b : Int) (K : V → Prop) (E : Prop) : Prop :=
 match op with
 | .shl => BnW b fun n => ShW (2 ^ min n k.bits) fun q => ArW k (a * q) fun z => K (.d (.int k z))
 | .shr => BnW b fun n => ShW (2 ^ min n k.bits) fun q => K (.d (.int k (a / q)))
 | _ => E
def isBool : Option TI → Bool
 | some { kind := .bool, .. } => true
 | _ => false
def isStr : Option TI → Bool
 | some { kind := .str, .. } => true
 | _ => false
def eqE (tt : TT) : List (Nat × Nat) → Nat → List D → List D → Option Bool
 | [], _, [], [] => some true
 | (o, f) :: fs, off, .int k a :: as, .int k' b :: bs => match tt f with
  | some { kind := .int _, .. } => bif Nat.beq o off && decide (k = k') then (match eqE tt fs (off + 1) as bs with
   | some r => some ((a == b) && r)
   | none => none) else none
  | _ => none
 | (o, f) :: fs, off, .bool a :: as, .bool b :: bs => match tt f with
  | some { kind := .bool, .. } => bif Nat.beq o off then (match eqE tt fs (off + 1) as bs with
   | some r => some ((a == b) && r)
   | none => none) else none
  | _ => none
 | (o, f) :: fs, off, .str a :: as, .str b :: bs => match tt f with
  | some { kind := .str, .. } => bif Nat.beq o off then (match eqE tt fs (off + 1) as bs with
   | some r => some ((a.toList == b.toList) && r)
   | none => none) else none
  | _ => none
 | _, _, _, _ => none
def eqE2 (tt : TT) : List (Nat × Nat) → Nat → List D → List D → Option Bool
 | [], _, [], [] => some true
 | (o, f) :: fs, off, .int k a :: as, .int k' b :: bs => match tt f with
  | some { kind := .int _, .. } => bif Nat.beq o off && decide (k = k') then (match eqE2 tt fs (off + 1) as bs with
   | some r => some ((a == b) && r)
   | none => none) else none
  | _ => none
 | (o, f) :: fs, off, .bool a :: as, .bool b :: bs => match tt f with
  | some { kind := .bool, .. } => bif Nat.beq o off then (match eqE2 tt fs (off + 1) as bs with
   | some r => some ((a == b) && r)
   | none => none) else none
  | _ => none
 | (o, f) :: fs, off, .str a :: as, .str b :: bs => match tt f with
  | some { kind := .str, .. } => bif Nat.beq o off then (match eqE2 tt fs (off + 1) as bs with
   | some r => some ((a.toList == b.toList) && r)
   | none => none) else none
  | _ => none
 | (o, f) :: fs, off, .st xs :: as, .st ys :: bs => match tt f with
  | some { kind := .strct gs, size := n, eq := true, .. } => bif Nat.beq o off && (Nat.beq (D.sizes xs) n && Nat.beq (D.sizes ys) n) then (match eqE tt gs 0 xs ys with
   | some q => (match eqE2 tt fs (off + n) as bs with
    | some r => some (q && r)
    | none => none)
   | none => none) else none
  | _ => none
 | _, _, _, _ => none
def dsOf : List V → Option (List D)
 | [] => some []
 | .d x :: vs => match dsOf vs with
  | some ys => some (x :: ys)
  | none => none
 | _ :: _ => none
def V.toD : V → V
 | .st fs => match dsOf fs with
  | some ds => .d (.st ds)
  | none => .st fs
 | v => v
def binV (tt : TT) (op : BinOp) (t : Nat) (x y : V) (K : V → Prop) : Prop :=
 match x, y with
 | .d (.int k a), .d (.int k' b) => shV op k a b K (bif decide (k = k') then binI op k a b K else False)
 | .d (.str a), .d (.str b) => binS op a b K
 | .d (.bool a), .d (.bool b) => bif isBool (tt t) then (match op with
  | .eql => K (.d (.bool (a == b)))
  | .neq => K (.d (.bool (!(a == b))))
  | _ => False) else False
 | .d (.st as), .d (.st bs) => match tt t with
  | some { kind := .strct fs, eq := true, .. } => match eqE2 tt fs 0 as bs with
   | some r => (match op with
    | .eql => K (.d (.bool r))
    | .neq => K (.d (.bool (!r)))
    | _ => False)
   | none => False
  | _ => False
 | .d (.lst xs), .nils => nlV tt op t xs.length K
 | .own _ _ n, .nils => nlV tt op t n K
 | .nils, .nils => nlV tt op t 0 K
 | _, _ => False
def unV (op : UnOp) (x : V) (K : V → Prop) : Prop :=
 match op, x with
 | .not, .d (.bool b) => K (.d (.bool (!b)))
 | .neg, .d (.int k n) => ArW k (0 - n) fun z => K (.d (.int k z))
 | _, _ => False
def convV (tt : TT) (d : Nat) (x : V) (K : V → Prop) : Prop :=
 match tt d, x with
 | some { kind := .int k, .. }, .d (.int _ n) => ArW k n fun z => K (.d (.int k z))
 | some { kind := .str, .. }, .d (.str s) => K (.d (.str s))
 | _, _ => False
def lenV (tt : TT) (t : Nat) (x : V) (K : V → Prop) : Prop :=
 match tt t, x with
 | some { kind := .str, .. }, .d (.str s) => K (.d (.int .i64 s.size))
 | some { kind := .sl _, .. }, .d (.lst xs) => K (.d (.int .i64 xs.length))
 | some { kind := .sl _, .. }, .own _ _ n => K (.d (.int .i64 n))
 | some { kind := .sl _, .. }, .nils => K (.d (.int .i64 (0 : Nat)))
 | _, _ => False
def capV (tt : TT) (t : Nat) (x : V) (K : V → Prop) : Prop :=
 match tt t, x with
 | some { kind := .sl _, .. }, .nils => K (.d (.int .i64 (0 : Nat)))
 | _, _ => False
structure HoW (h : List Blk) (g len cap : Nat) (K : V → Prop) : Prop where
 ex : ∃ (j c n : Nat) (xs : List D) (dp : Bool) (sz : Nat) (t : TypeId), h[j]? = some (Blk.pin c g sz t) ∧ h[c]? = some (Blk.arr n xs dp) ∧ (cap = 0 ∨ cap * n < sz) ∧ K (.own c 0 len)
def holeV (h : List Blk) (u : D) (K : V → Prop) : Prop :=
 match u with
 | .hole g len cap => HoW h g len cap K
 | _ => K (.d u)
def holeW (i : TI) (h : List Blk) (u : V) (K : V → Prop) : Prop :=
 match i.kind, u with
 | .sl _, .d y => holeV h y K
 | _, u => K u
def loadV (tt : TT) (t : Nat) (v : V) (h : List Blk) (K : V → Prop) : Prop :=
 match tt t with
 | none => False
 | some i => match v with
  | .pX x => bif Nat.beq x.size i.size && (x.agg == i.agg) then K (.d x) else False
  | .pB b p off => bif Nat.ble off 1000000 then (match h[b]? with
   | some (.box c) => (match c.sub p 0 with
    | some (u, o) => bif Nat.beq o off && Nat.beq u.size i.size && (u.isAgg == i.agg) then holeW i h u K else False
    | none => False)
   | _ => False) else False
  | .pL b k p off => match h[b]? with
   | some (.arr _ xs dp) => EoW k xs fun y => (match y.sub p 0 with
    | some (u, o) => bif Nat.beq o off && Nat.beq u.size i.size && (u.agg == i.agg) && (u.flat || !dp) then holeV h u K else False
    | none => False)
   | some (.byr bs) => bif Nat.beq off 0 && Nat.beq i.size 1 && !i.agg then (EoW k (bs.map bD) fun y => K (.d y)) else False
   | _ => False
  | _ => False
def fieldV (tt : TT) (s : Nat) (x : V) (f : Nat) (K : V → Prop) : Prop :=
 match tt s with
 | some { kind := .strct fs, .. } => match fs[f]? with
  | some (off, ft) => match tt ft with
   | some i => bif Nat.beq i.size 0 then False else (match x with
    | .pX (.st ds) => match fldD ds f 0 with
     | some (u, o) => bif Nat.beq o off && Nat.beq u.size i.size then K (.pX u) else False
     | none => False
    | .pB b p o => bif Nat.ble (o + off) 1000000 then K (.pB b (p ++ [f]) (o + off)) else False
    | .pL b k p o => K (.pL b k (p ++ [f]) (o + off))
    | _ => False)
   | none => False
  | none => False
 | _ => False
def indexV (tt : TT) (t : Nat) (x i : V) (h : List Blk) (K : V → Prop) : Prop :=
 match tt t, i with
 | some { kind := .sl e, .. }, .d (.int _ i) => match tt e with
  | some ie => match x with
   | .own b off len => bif Nat.beq (nOf h b) ie.size then (IoW i len fun k => K (.pL b (k + off) [] 0)) else False
   | .d (.lst xs) => IxW i xs fun y => (bif Nat.beq y.size ie.size then K (.pX y) else False)
   | .pB b (len :: _) off => bif Nat.beq off 1000000009 && Nat.beq (nOf h b) ie.size && Nat.beq ie.size 1 then (IoW i len fun k => K (.pL b k [] 0)) else False
   | _ => False
  | none => False
 | some { kind := .ar n e, .. }, .d (.int _ i) => match tt e with
  | some ie => match x with
   | .pL b 0 [] 0 => bif Nat.beq (nOf h b) ie.size then (IoW i n fun k => K (.pL b k [] 0)) else False
   | .pX (.st ds) => SzW ie.size ds (EqW ds.length n (IxW i ds fun y => K (.pX y)))
   | _ => False
  | none => False
 | _, _ => False
def charV (tt : TT) (t : Nat) (x i : V) (K : V → Prop) : Prop :=
 match tt t, x, i with
 | some { kind := .str, .. }, .d (.str s), .d (.int _ i) => ChW i s fun c => K (.d (.int .u8 c.toNat))
 | _, _, _ => False
def sliceV (tt : TT) (t : Nat) (x : V) (lo hi : Option V) (h : List Blk) (K : V → Prop) : Prop :=
 match tt t, x with
 | some { kind := .str, .. }, .d (.str s) => bndV hi s.size fun r => bndV lo 0 fun l => SlW l r s.size (K (.d (.str (s.extract l r))))
 | some { kind := .sl e, .. }, .own b off len => match tt e with
  | some ie => bif Nat.beq (nOf h b) ie.size then bndV hi len fun r => bndV lo 0 fun l => SlW l r len (K (.own b (l + off) (r - l))) else False
  | none => False
 | some { kind := .ar n e, .. }, .pL b 0 [] 0 => match tt e, h[b]? with
  | some ie, some (.arr n' xs _) => bif Nat.beq n' ie.size && Nat.ble n 65536 then EqW xs.length n (bndV hi n fun r => bndV lo 0 fun l => SlW l r n (K (.own b l (r - l)))) else False
  | _, _ => False
 | some { kind := .sl e, .. }, .d (.lst xs) => match tt e with
  | some ie => bndV hi xs.length fun r => bndV lo 0 fun l => SlW l r xs.length (SzW ie.size xs (K (.d (.lst ((xs.drop l).take (r - l))))))
  | none => False
 | some { kind := .sl e, .. }, .nils => match tt e with
  | some _ => bndV hi 0 fun r => bndV lo 0 fun l => SlW l r 0 (K .nils)
  | none => False
 | _, _ => False
def bytesV (x : V) (h : List Blk) (K : ByteArray → Prop) : Prop :=
 match x with
 | .nils => K .empty
 | .d (.lst xs) => StW xs K
 | .own b off len => match h[b]? with
  | some (.arr 1 xs _) => SlW off (off + len) xs.length (StW ((xs.drop off).take len) K)
  | _ => False
 | .pB b (len :: _) off => match h[b]? with
  | some (.byr bs) => bif Nat.beq off 1000000009 then (EqW len bs.length (K (⟨bs.toArray⟩ : ByteArray))) else False
  | _ => False
 | _ => False
def capsOK : List V → Bool
 | [] => true
 | v :: vs => v.okc && !v.isAgg && capsOK vs
def mxV (mx : Bool) (x y : V) (K : V → Prop) : Prop :=
 match x, y with
 | .d (.int k a), .d (.int k' b) => bif k == k' then (bif mx then K (.d (.int k (max a b))) else K (.d (.int k (min a b)))) else False
 | _, _ => False
def keyE : D → D → Bool
 | .int _ a, .int _ b => a == b
 | .str a, .str b => a == b
 | _, _ => false
def lkD : List (D × D) → D → Option D
 | [], _ => none
 | (k, v) :: es, q => bif keyE q k then some v else lkD es q
def updD : List (D × D) → D → D → List (D × D)
 | [], q, z => [(q, z)]
 | (k, v) :: es, q, z => bif keyE q k then (q, z) :: es else (k, v) :: updD es q z
structure LkW (es : List (D × D)) (q : D) (A : D → Prop) (B : Prop) : Prop where
 ex : (∀ v, lkD es q = some v → A v) ∧ (lkD es q = none → B)
def okV (ok : Bool) (v : V) (b : Bool) : V := bif ok then .tup [v, .d (.bool b)] else v
def kkV (tt : TT) (kt : Nat) : Option (Option IntKind) :=
 match tt kt with
 | some { kind := .int k, .. } => some (some k)
 | some { kind := .str, .. } => some none
 | _ => none
def tgE : Option (Option IntKind) → Option IntKind → Bool
 | some (some k), some k' => decide (k = k')
 | some none, none => true
 | _, _ => false
def lkV (tt : TT) (t : Nat) (x i : V) (ok : Bool) (h : List Blk) (K : V → Prop) : Prop :=
 match tt t, x, i with
 | some { kind := .mp kt et, .. }, .pB b _ off, .d q => match tt et, h[b]? with
  | some ie, some (.mp tg es) => bif Nat.beq off 1000000007 && keyK tg q && tgE (kkV tt kt) tg then LkW es q (fun v => K (okV ok (.d v) true)) (K (okV ok ie.zero false)) else False
  | _, _ => False
 | _, _, _ => False
def cvB (s d : Nat) : Bool := Nat.beq s 9 && Nat.beq d 22
def isQuiet (o : Oper) : Bool :=
 match o.op with
 | .move _ => true
 | .assign _ => true
 | .pick _ _ _ => true
 | .load _ _ => true
 | .nilCheck _ => true
 | .fieldAddr _ _ _ => true
 | .indexAddr _ _ _ => true
 | .index _ _ _ => true
 | .slice _ _ _ _ _ => true
 | .binOp _ _ _ _ _ => true
 | .unOp _ _ _ => true
 | .convert s d _ => !cvB s d
 | .extract _ _ => true
 | .makeFunc _ _ _ => true
 | .lookup _ _ _ _ => true
 | .call { callee := .builtin .len, .. } => true
 | .call { callee := .builtin .cap, .. } => true
 | .call { callee := .builtin .max, .. } => true
 | .call { callee := .builtin .min, .. } => true
 | _ => false
def quietV (tt : TT) (o : Oper) (e : Env) (h : List Blk) (K : V → Prop) : Prop :=
 match o.op with
 | .move x => K (ev e x)
 | .assign x => K (ev e x)
 | .pick c a b => match ev e c with
  | .d (.bool q) => BIf q (K (ev e a)) (K (ev e b))
  | _ => False
 | .load t a => loadV tt t (ev e a) h K
 | .nilCheck x => match ev e x with
  | .pB b p o => bif Nat.ble o 1000000 then K (.pB b p o) else False
  | .pL b i p o => K (.pL b i p o)
  | .pX y => K (.pX y)
  | _ => False
 | .fieldAddr s x f => fieldV tt s (ev e x) f K
 | .indexAddr t x i => indexV tt t (ev e x) (ev e i) h K
 | .index t x i => charV tt t (ev e x) (ev e i) K
 | .slice t x lo hi none => sliceV tt t (ev e x) (lo.map (ev e)) (hi.map (ev e)) h K
 | .binOp op t x y _ => binV tt op t (ev e x).toD (ev e y).toD K
 | .unOp op _ x => unV op (ev e x) K
 | .convert s d x => match tt s with
  | some { kind := .sl u, .. } => match tt d, tt u with
   | some { kind := .str, .. }, some { kind := .int .u8, .. } => bytesV (ev e x) h fun s => K (.d (.str s))
   | _, _ => False
  | some _ => convV tt d (ev e x) K
  | none => False
 | .extract x i => match ev e x with
  | .tup vs => match vs[i]? with
   | some v => K v
   | none => False
  | _ => False
 | .makeFunc f ⟨[]⟩ ⟨caps⟩ => bif capsOK (evs e caps) then K (.fn f (evs e caps)) else False
 | .lookup t x i ok => lkV tt t (ev e x) (ev e i) ok h K
 | .call { callee := .builtin .len, args := ⟨[x]⟩, argTypes := ⟨t :: _⟩ } => lenV tt t (ev e x) K
 | .call { callee := .builtin .cap, args := ⟨[x]⟩, argTypes := ⟨t :: _⟩ } => capV tt t (ev e x) K
 | .call { callee := .builtin .max, args := ⟨[x, y]⟩, .. } => mxV true (ev e x) (ev e y) K
 | .call { callee := .builtin .min, args := ⟨[x, y]⟩, .. } => mxV false (ev e x) (ev e y) K
 | .call { callee := .builtin .min, args := ⟨[x, y, z]⟩, .. } => mxV false (ev e x) (ev e y) fun v => mxV false v (ev e z) K
 | _ => False
section
variable {w : World} {M : MM} {h : List Blk} {cv : Value}
theorem rep_int {k : IntKind} {n : Int} : rep w M h (.d (.int k n)) cv ↔ (cv = .int k n ∧ inR k n) := by simp [rep, rep1, V.isAgg, D.agg, repC, repD]
theorem rep_bool {b : Bool} : rep w M h (.d (.bool b)) cv ↔ cv = .bool b := by simp [rep, rep1, V.isAgg, D.agg, repC, repD]
theorem rep_str {s : ByteArray} : rep w M h (.d (.str s)) cv ↔ (cv = .string s ∧ s.size ≤ maxLen) := by simp [rep, rep1, V.isAgg, D.agg, repC, repD]
theorem rep_nils : rep w M h .nils cv ↔ cv = .slice none 0 0 := by simp [rep, rep1, V.isAgg, repC]
theorem rep_own {b o l : Nat} : rep w M h (.own b o l) cv ↔ ownR w M h b o l cv := by simp [rep, rep1, V.isAgg, repC]
theorem rep_lst {xs : List D} : rep w M h (.d (.lst xs)) cv ↔ ∃ a cap n, cv = .slice a xs.length cap ∧ xs.length ≤ cap ∧ cap ≤ maxLen ∧ (a = none → cap = 0) ∧ repDe M.O w a n xs 0 := by
 simp [rep, rep1, V.isAgg, D.agg, repC, repD]
theorem rep_pX {x : D} : rep w M h (.pX x) cv ↔ ∃ b o ces, cv = .pointer (some ⟨b, o, none⟩) ∧ b ∉ M.O ∧ b < w.heap.size ∧ CellsAt w b o ces ∧ repD M.O w x ces := by
 simp [rep, rep1, V.isAgg, repC]
theorem rep_pB {b : Nat} {p : List Nat} {o : Nat} : rep w M h (.pB b p o) cv ↔ ∃ g F, M[b]? = some (some (g, F)) ∧ cv = pbv g p o := by
 simp [rep, rep1, V.isAgg, repC]
theorem BL {b : Bool} {A : Prop} (H : bif b then A else False) : b = true ∧ A := by
 cases b with
 | false => exact H.elim
 | true => exact ⟨rfl, H⟩
theorem rep_pL {b i : Nat} {p : List Nat} {o : Nat} : rep w M h (.pL b i p o) cv ↔ ∃ g F, M[b]? = some (some (g, F)) ∧ cv = .pointer (some ⟨g, i * nOf h b + o, none⟩) := by
 simp [rep, rep1, V.isAgg, repC]
theorem rep_tup {vs : List V} : rep w M h (.tup vs) cv ↔ ∃ cvs : List Value, cv = .tuple cvs.toArray ∧ repT w M h vs cvs := Iff.rfl
theorem rep_fn {f : Fn} {caps : List V} : rep w M h (.fn f caps) cv ↔ ∃ cvs : List Value, cv = .func f #[] cvs.toArray ∧ repK w M h caps cvs := by
 simp [rep, rep1, V.isAgg, repC]
theorem rep1_of_rep {v : V} (hv : v.okc = true) (H : rep w M h v cv) : rep1 w M h v cv := by
 cases v <;> first | exact H | cases hv
end
theorem wrap_inR (k : IntKind) (n : Int) : inR k (k.wrap n) := by
 unfold inR IntKind.wrap IntKind.min IntKind.max
 cases k <;> simp only [IntKind.bits, IntKind.signed, Bool.false_and, Bool.true_and, Bool.false_eq_true, if_false, if_true, decide_eq_true_eq, ge_iff_le, Nat.reduceSub, Int.reducePow, Int.reduceNeg] <;> first | omega | (split <;> omega)
theorem inR_zero (k : IntKind) : k.min ≤ 0 ∧ 0 ≤ k.max := by
 cases k <;> simp [IntKind.min, IntKind.max, IntKind.bits, IntKind.signed]
theorem tmod_inR {k : IntKind} {a b : Int} (h : inR k a) : inR k (a.tmod b) := by
 obtain ⟨z1, z2⟩ := inR_zero k
 obtain ⟨h1, h2⟩ := h
 rcases Int.le_total 0 a with ha | ha
 ·have p1 := Int.tmod_nonneg b ha
  have p2 := Int.natAbs_tmod a b
  have p3 := Nat.mod_le a.natAbs b.natAbs
  exact ⟨by omega, by omega⟩
 ·have e : a.tmod b = -((-a).tmod b) := by rw [Int.neg_tmod]; omega
  have p1 := Int.tmod_nonneg b (a := -a) (by omega)
  have p2 := Int.natAbs_tmod (-a) b
  have p3 := Nat.mod_le (-a).natAbs b.natAbs
  exact ⟨by omega, by omega⟩
theorem nat_inR {n : Nat} (h : n ≤ maxLen) : inR .i64 (n : Int) := by
 unfold maxLen at h
 unfold inR
 simp only [IntKind.min, IntKind.max, IntKind.bits, IntKind.signed, if_true]
 omega
def cOK : Operand → Bool
 | .const (.int k n) => decide (k.min ≤ n) && decide (n ≤ k.max)
 | .const (.string s) => decide (s.size ≤ maxLen)
 | _ => true
theorem ofC_rep (w : World) (M : MM) (h : List Blk) (v : Value) (hc : cOK (.const v) = true) : rep w M h (ofC v) v := by
 unfold ofC
 split
 ·rw [rep_int]
  simp only [cOK, Bool.and_eq_true, decide_eq_true_eq] at hc
  exact ⟨rfl, hc⟩
 ·rw [rep_bool]
 ·rw [rep_str]
  simp only [cOK, decide_eq_true_eq] at hc
  exact ⟨rfl, hc⟩
 ·rw [rep_nils]
 ·show rep1 _ _ _ _ _
  simp [rep1, V.isAgg, repC]
 ·trivial
theorem ev_rep {w : World} {M : MM} {h : List Blk} {e : Env} {a : Act} (hE : ∀ k, rep w M h (gt e k) (a.tmps.getD k Go.undef)) (x : Operand) (hc : cOK x = true) : rep w M h (ev e x) (a.eval x) := by
 cases x with
 | tmp t => exact hE t
 | const v => exact ofC_rep w M h v hc
 | global g => trivial
 | func f => exact rep_fn.2 ⟨[], rfl, rfl⟩
theorem repDs_fld {O : List Nat} {w : World} : ∀ (ds : List D) (cs : List Value) (f off : Nat) (u : D) (o : Nat), repDs O w ds cs → fldD ds f off = some (u, o) →
  ∃ c1 c2 c3, cs = c1 ++ c2 ++ c3 ∧ off + c1.length = o ∧ repD O w u c2
 | [], cs, f, off, u, o, _, h => by simp [fldD] at h
 | d :: ds, cs, 0, off, u, o, H, h => by
  obtain ⟨c1, c2, rfl, h1, h2⟩ := H
  simp only [fldD, Option.some.injEq, Prod.mk.injEq] at h
  obtain ⟨rfl, rfl⟩ := h
  exact ⟨[], c1, c2, rfl, rfl, h1⟩
 | d :: ds, cs, f + 1, off, u, o, H, h => by
  obtain ⟨c1, c2, rfl, h1, h2⟩ := H
  obtain ⟨p1, p2, p3, rfl, e, hr⟩ := repDs_fld ds c2 f (off + d.size) u o h2 h
  refine ⟨c1 ++ p1, p2, p3, by simp, ?_, hr⟩
  rw [List.length_append, repD_len d c1 h1]
  omega
theorem repD_sub {O : List Nat} {w : World} : ∀ (p : List Nat) (x : D) (cs : List Value) (off : Nat) (u : D) (o : Nat), repD O w x cs → x.sub p off = some (u, o) →
  ∃ c1 c2 c3, cs = c1 ++ c2 ++ c3 ∧ off + c1.length = o ∧ repD O w u c2
 | [], x, cs, off, u, o, H, h => by
  simp only [D.sub, Option.some.injEq, Prod.mk.injEq] at h
  obtain ⟨rfl, rfl⟩ := h
  exact ⟨[], cs, [], by simp, rfl, H⟩
 | i :: p, x, cs, off, u, o, H, h => by
  cases x with
  | st ds =>
   simp only [D.sub] at h
   split at h
   ·rename_i u1 o1 h1
    obtain ⟨c1, c2, c3, rfl, e, hr⟩ := repDs_fld ds cs i off u1 o1 H h1
    obtain ⟨d1, d2, d3, rfl, e', hr'⟩ := repD_sub p u1 c2 o1 u o hr h
    exact ⟨c1 ++ d1, d2, d3 ++ c3, by simp, by rw [List.length_append]; omega, hr'⟩
   ·cases h
  | int k n => simp [D.sub] at h
  | bool k => simp [D.sub] at h
  | str k => simp [D.sub] at h
  | lst k => simp [D.sub] at h
  | hole _ _ _ => simp [D.sub] at h
  | fnv _ => simp [D.sub] at h
  | raw _ => simp [D.sub] at h
section
variable {w : World} {M : MM} {h : List Blk}
mutual
theorem repC_len : ∀ (v : V) (cs : List Value), repC w M h v cs → cs.length = v.size
 | .d x, cs, H => repD_len x cs H
 | .st fs, cs, H => repCs_len fs cs H
 | .top, cs, H => by obtain ⟨_, rfl, _⟩ := H; rfl
 | .undef, cs, H => H.elim
 | .nils, cs, H => by cases H; rfl
 | .nilp, cs, H => by cases H; rfl
 | .own _ _ _, cs, H => by obtain ⟨_, rfl, _⟩ := H; rfl
 | .pB _ _ _, cs, H => by obtain ⟨_, _, _, rfl⟩ := H; rfl
 | .pL _ _ _ _, cs, H => by obtain ⟨_, _, _, rfl⟩ := H; rfl
 | .pX _, cs, H => by obtain ⟨_, _, _, rfl, _⟩ := H; rfl
 | .fn _ _, cs, H => by obtain ⟨_, rfl, _⟩ := H; rfl
 | .tup _, cs, H => H.elim
theorem repCs_len : ∀ (vs : List V) (cs : List Value), repCs w M h vs cs → cs.length = V.sizes vs
 | [], cs, H => by cases H; rfl
 | v :: vs, cs, H => by
  obtain ⟨c1, c2, rfl, h1, h2⟩ := H
  rw [List.length_append, repC_len v c1 h1, repCs_len vs c2 h2]; rfl
end
theorem repCs_fld : ∀ (ds : List V) (cs : List Value) (f off : Nat) (u : V) (o : Nat), repCs w M h ds cs → fldV ds f off = some (u, o) →
  ∃ c1 c2 c3, cs = c1 ++ c2 ++ c3 ∧ off + c1.length = o ∧ repC w M h u c2
 | [], cs, f, off, u, o, _, h => by simp [fldV] at h
 | d :: ds, cs, 0, off, u, o, H, h => by
  obtain ⟨c1, c2, rfl, h1, h2⟩ := H
  simp only [fldV, Option.some.injEq, Prod.mk.injEq] at h
  obtain ⟨rfl, rfl⟩ := h
  exact ⟨[], c1, c2, rfl, rfl, h1⟩
 | d :: ds, cs, f + 1, off, u, o, H, h => by
  obtain ⟨c1, c2, rfl, h1, h2⟩ := H
  obtain ⟨p1, p2, p3, rfl, e, hr⟩ := repCs_fld ds c2 f (off + d.size) u o h2 h
  refine ⟨c1 ++ p1, p2, p3, by simp, ?_, hr⟩
  rw [List.length_append, repC_len d c1 h1]
  omega
theorem repC_sub : ∀ (p : List Nat) (v : V) (cs : List Value) (off : Nat) (u : V) (o : Nat), repC w M h v cs → v.sub p off = some (u, o) →
  ∃ c1 c2 c3, cs = c1 ++ c2 ++ c3 ∧ off + c1.length = o ∧ repC w M h u c2
 | [], x, cs, off, u, o, H, h => by
  simp only [V.sub, Option.some.injEq, Prod.mk.injEq] at h
  obtain ⟨rfl, rfl⟩ := h
  exact ⟨[], cs, [], by simp, rfl, H⟩
 | i :: p, x, cs, off, u, o, H, h => by
  cases x with
  | st ds =>
   simp only [V.sub] at h
   split at h
   ·rename_i u1 o1 h1
    obtain ⟨c1, c2, c3, rfl, e, hr⟩ := repCs_fld ds cs i off u1 o1 H h1
    obtain ⟨d1, d2, d3, rfl, e', hr'⟩ := repC_sub p u1 c2 o1 u o hr h
    exact ⟨c1 ++ d1, d2, d3 ++ c3, by simp, by rw [List.length_append]; omega, hr'⟩
   ·cases h
  | d x =>
   simp only [V.sub] at h
   split at h
   ·rename_i u1 o1 h1
    cases h
    exact repD_sub (i :: p) x cs off u1 o H h1
   ·cases h
  | _ => simp [V.sub] at h
end
theorem cellsAt_mid {w : World} {g : Nat} {arr : Array Value} {t : TypeId} (hg : w.heap[g]? = some (.cells arr t (0, 0))) {c1 c2 c3 : List Value} {o : Nat} (e : arr.toList = c1 ++ c2 ++ c3) (hl : c1.length = o) : CellsAt w g o c2 := by
 intro j v hj
 have hlt : j < c2.length := (List.getElem?_eq_some_iff.1 hj).1
 have : arr[o + j]? = some v := by
  rw [← Array.getElem?_toList, e, List.append_assoc, List.getElem?_append_right (by omega), List.getElem?_append_left (by omega)]
  rw [show o + j - c1.length = j by omega]; exact hj
 simp [World.cell?, hg, this]
theorem cellsAt_sub {w : World} {b o : Nat} {c1 c2 c3 : List Value} (H : CellsAt w b o (c1 ++ c2 ++ c3)) : CellsAt w b (o + c1.length) c2 := by
 intro j v hj
 have hlt : j < c2.length := (List.getElem?_eq_some_iff.1 hj).1
 rw [Nat.add_assoc]
 refine H _ v ?_
 rw [List.append_assoc, List.getElem?_append_right (by omega), List.getElem?_append_left (by omega)]
 rw [show c1.length + j - c1.length = j by omega]; exact hj
theorem run_load_cells {P : Program} {t : Nat} {i : TI} (hT : TIok P t i) {w : World} {b o : Nat} {cs : List Value} (hc : CellsAt w b o cs) (hl : cs.length = i.size) :
  ∃ cv, (i.agg = true ∧ cv = .agg cs.toArray ∨ i.agg = false ∧ cs = [cv]) ∧ ∀ w', Ext w w' → (Instr.loadAt t (.pointer (some ⟨b, o, none⟩))).run P w' = .ok cv w' := by
 obtain ⟨f, d, z, h1, h2, h3, h4, h5, h6, h7, h8, h9⟩ := hT.ex
 have hx : ∀ w', Ext w w' → (loadCells ⟨b, o, none⟩ cs.length).run P w' = .ok cs.toArray w' := fun w' hb =>
  run_loadCells_list w' ⟨b, o, none⟩ cs fun j v hj => by rw [addr_add_plain]; exact hb.cellSome (hc j v hj)
 rw [hl] at hx
 have hsz : (sizeOf t : Sem Nat) = (do pure (← typeInfo t).size) := rfl
 cases hk : i.agg with
 | true =>
  refine ⟨.agg cs.toArray, .inl ⟨rfl, rfl⟩, fun w' hb => ?_⟩
  have hd : (isAgg t).run P w' = .ok true w' := by
   unfold isAgg
   rw [Sem.run_bind, run_underlying h5]
   unfold TI.agg at hk
   cases d <;> cases hkk : i.kind <;> rw [hkk] at hk h6 <;> first | exact (h6 : False).elim | rfl | cases hk
  simp only [Instr.loadAt, Instr.sureAddr, loadVar, Sem.run_bind, Sem.run_pure, Result.andThen_ok, hd, if_true]
  simp only [sizeOf, Sem.run_bind, Sem.run_pure, typeInfo, run_program, Result.andThen_ok, h1, h2, hx w' hb]
 | false =>
  have h10 := h9 hk
  rw [h10] at hl
  match cs, hl with
  | [c], _ =>
   refine ⟨c, .inr ⟨rfl, rfl⟩, fun w' hb => ?_⟩
   have hd : (isAgg t).run P w' = .ok false w' := by
    unfold isAgg
    rw [Sem.run_bind, run_underlying h5]
    unfold TI.agg at hk
    cases d <;> cases hkk : i.kind <;> rw [hkk] at hk h6 <;> first | exact (h6 : False).elim | rfl | cases hk
   have := hb.cellSome (hc 0 c rfl)
   simp only [Instr.loadAt, Instr.sureAddr, loadVar, Sem.run_bind, Sem.run_pure, Result.andThen_ok, hd, Bool.false_eq_true, if_false, run_load]
   rw [Nat.add_zero] at this
   rw [this]
theorem rep1_of_cells {w : World} {M : MM} {h : List Blk} {v : V} {cs : List Value} {i : TI} (hr : repC w M h v cs) (ha : v.isAgg = i.agg) {cv : Value} (hcv : i.agg = true ∧ cv = .agg cs.toArray ∨ i.agg = false ∧ cs = [cv]) : rep1 w M h v cv := by
 unfold rep1
 rw [ha]
 rcases hcv with ⟨e, rfl⟩ | ⟨e, rfl⟩
 ·rw [if_pos e]; exact ⟨cs, rfl, hr⟩
 ·rw [if_neg (by rw [e]; simp)]; exact hr
theorem ownDe_get {w : World} {arr : Array Value} {n : Nat} : ∀ (xs : List D) (i0 : Nat) (F : List Nat), ownDe w arr n xs i0 F → ∀ (i : Nat) (x : D), xs[i]? = some x →
  ∃ F1 F2 F3 ces, F = F1 ++ F2 ++ F3 ∧ x.size = n ∧ (∀ (j : Nat) (v : Value), ces[j]? = some v → arr[(i0 + i) * n + j]? = some v) ∧ ownD w x F2 ces
 | [], i0, F, _, i, x, h => by simp at h
 | y :: xs, i0, F, H, i, x, h => by
  obtain ⟨F1, F2, ces, rfl, h1, h2, h3, h4⟩ := H
  cases i with
  | zero => simp at h; subst h; exact ⟨[], F1, F2, ces, rfl, h1, h2, h3⟩
  | succ i =>
   obtain ⟨G1, G2, G3, ces', rfl, k1, k2, k3⟩ := ownDe_get xs (i0 + 1) F2 h4 i x (by simpa using h)
   exact ⟨F1 ++ G1, G2, G3, ces', by simp, k1, fun j v hj => by rw [show i0 + (i + 1) = i0 + 1 + i by omega]; exact k2 j v hj, k3⟩
theorem extDe_get {O : List Nat} {w : World} {arr : Array Value} {n : Nat} : ∀ (xs : List D) (i0 : Nat), extDe O w arr n xs i0 → ∀ (i : Nat) (x : D), xs[i]? = some x →
  ∃ ces : List Value, x.size = n ∧ (∀ (j : Nat) (v : Value), ces[j]? = some v → arr[(i0 + i) * n + j]? = some v) ∧ repD O w x ces
 | [], i0, _, i, x, h => by simp at h
 | y :: xs, i0, ⟨h1, h2⟩, i, x, h => by
  cases i with
  | zero => simp at h; subst h; exact h1
  | succ i =>
   obtain ⟨ces, k1, k2, k3⟩ := extDe_get xs (i0 + 1) h2 i x (by simpa using h)
   exact ⟨ces, k1, fun j v hj => by rw [show i0 + (i + 1) = i0 + 1 + i by omega]; exact k2 j v hj, k3⟩
mutual
theorem own_sub {O : List Nat} {w : World} : ∀ (p : List Nat) (x : D) (F : List Nat) (cs : List Value) (off : Nat) (u : D) (o : Nat), ownD w x F cs → x.sub p off = some (u, o) → u.flat = true →
  ∃ c1 c2 c3, cs = c1 ++ c2 ++ c3 ∧ off + c1.length = o ∧ repD O w u c2
 | [], x, F, cs, off, u, o, H, h, hf => by
  simp only [D.sub, Option.some.injEq, Prod.mk.injEq] at h
  obtain ⟨rfl, rfl⟩ := h
  exact ⟨[], cs, [], by simp, rfl, flat_rep x F cs hf H⟩
 | i :: p, x, F, cs, off, u, o, H, h, hf => by
  cases x with
  | st ds =>
   simp only [D.sub] at h
   split at h
   ·rename_i u1 o1 h1
    obtain ⟨F', c1, c2, c3, rfl, e, hr⟩ := own_fld ds F cs i off u1 o1 H h1
    obtain ⟨d1, d2, d3, rfl, e', hr'⟩ := own_sub p u1 F' c2 o1 u o hr h hf
    exact ⟨c1 ++ d1, d2, d3 ++ c3, by simp, by rw [List.length_append]; omega, hr'⟩
   ·cases h
  | int k n => simp [D.sub] at h
  | bool k => simp [D.sub] at h
  | str k => simp [D.sub] at h
  | lst k => simp [D.sub] at h
  | hole _ _ _ => simp [D.sub] at h
  | fnv _ => simp [D.sub] at h
  | raw _ => simp [D.sub] at h
theorem own_fld {w : World} : ∀ (ds : List D) (F : List Nat) (cs : List Value) (f off : Nat) (u : D) (o : Nat), ownDs w ds F cs → fldD ds f off = some (u, o) →
  ∃ F' c1 c2 c3, cs = c1 ++ c2 ++ c3 ∧ off + c1.length = o ∧ ownD w u F' c2
 | [], F, cs, f, off, u, o, _, h => by simp [fldD] at h
 | d :: ds, F, cs, 0, off, u, o, H, h => by
  obtain ⟨F1, F2, c1, c2, rfl, rfl, h1, h2⟩ := H
  simp only [fldD, Option.some.injEq, Prod.mk.injEq] at h
  obtain ⟨rfl, rfl⟩ := h
  exact ⟨F1, [], c1, c2, rfl, rfl, h1⟩
 | d :: ds, F, cs, f + 1, off, u, o, H, h => by
  obtain ⟨F1, F2, c1, c2, rfl, rfl, h1, h2⟩ := H
  obtain ⟨F', p1, p2, p3, rfl, e, hr⟩ := own_fld ds F2 c2 f (off + d.size) u o h2 h
  refine ⟨F', c1 ++ p1, p2, p3, by simp, ?_, hr⟩
  rw [List.length_append, repD_len d c1 (ownD_rep (O := []) d F1 c1 (by simp) h1)]
  omega
theorem flat_rep {O : List Nat} {w : World} : ∀ (x : D) (F : List Nat) (cs : List Value), x.flat = true → ownD w x F cs → repD O w x cs
 | .int k n, F, cs, _, h => h.2
 | .bool b, F, cs, _, h => h.2
 | .str s, F, cs, _, h => h.2
 | .hole _ _ _, F, cs, _, h => by obtain ⟨rfl, h⟩ := h; exact h
 | .fnv _, F, cs, _, h => by obtain ⟨rfl, h⟩ := h; exact h
 | .raw _, F, cs, _, h => by obtain ⟨rfl, h⟩ := h; exact h
 | .lst xs, F, cs, hf, h => by cases hf
 | .st fs, F, cs, hf, h => flats_rep fs F cs hf h
theorem flats_rep {O : List Nat} {w : World} : ∀ (fs : List D) (F : List Nat) (cs : List Value), D.flats fs = true → ownDs w fs F cs → repDs O w fs cs
 | [], F, cs, _, h => h.2
 | f :: fs, F, cs, hf, h => by
  obtain ⟨F1, F2, c1, c2, rfl, e, h1, h2⟩ := h
  simp only [D.flats, Bool.and_eq_true] at hf
  exact ⟨c1, c2, e, flat_rep f F1 c1 hf.1 h1, flats_rep fs F2 c2 hf.2 h2⟩
end
theorem nbeq (a b : Nat) : (Nat.beq a b = true) = (a = b) := propext ⟨Nat.eq_of_beq_eq_true, fun h => by subst h; exact Nat.beq_refl a⟩
def isLoad (o : Oper) : Bool :=
 match o.op with
 | .load _ _ => true
 | .convert _ _ _ => true
 | .lookup _ _ _ _ => true
 | _ => false
def QOut (P : Program) (o : Oper) (a : Act) (w : World) (M : MM) (h : List Blk) (K : V → Prop) : Prop :=
 ∃ v cv, K v ∧ rep w M h v cv ∧ ∀ w', (isLoad o = false ∨ Ext w w') → (execOp a.eval o).run P w' = .ok (.value cv) w'
section
variable {P : Program} {tt : TT} {w : World} {M : MM} {h : List Blk} {K : V → Prop} {B : Nat}
theorem load_sound (hT : TOk P tt) (hI : MInv B w M h) {t : Nat} {v : V} {cv : Value} (hv : rep w M h v cv) (H : loadV tt t v h K) :
  ∃ u cu, K u ∧ rep w M h u cu ∧ ∀ w', Ext w w' → (Instr.loadAt t cv).run P w' = .ok cu w' := by
 unfold loadV at H
 split at H
 ·exact H.elim
 rename_i i hi
 have hti := hT t i hi
 split at H
 ·-- pX
  rename_i x
  obtain ⟨b, o, ces, rfl, hb, hlt, hc, hr⟩ := rep_pX.1 hv
  cases hq : (Nat.beq x.size i.size && (x.agg == i.agg)) with
  | false => rw [hq] at H; exact H.elim
  | true =>
   rw [hq] at H
   simp only [Bool.and_eq_true, beq_iff_eq, nbeq] at hq
   obtain ⟨cu, h1, h2⟩ := run_load_cells hti hc ((repD_len x ces hr).trans hq.1)
   exact ⟨.d x, cu, H, rep1_of_cells (v := .d x) hr hq.2 h1, h2⟩
 ·-- pB
  rename_i b p off
  have H0 := BL H; clear H; obtain ⟨hlo, H⟩ := H0
  obtain ⟨g, F, hM, hcv⟩ := rep_pB.1 hv
  rw [pbv_lo hlo] at hcv
  subst hcv
  split at H
  ·rename_i c hc
   split at H
   ·rename_i u o hs
    cases hq : (Nat.beq o off && Nat.beq u.size i.size && (u.isAgg == i.agg)) with
    | false => rw [hq] at H; exact H.elim
    | true =>
     rw [hq] at H
     simp only [Bool.and_eq_true, beq_iff_eq, nbeq] at hq
     obtain ⟨⟨rfl, q2⟩, q3⟩ := hq
     obtain ⟨rfl, arr, t', hg, hr⟩ := hI.blk b _ _ hc hM
     obtain ⟨c1, c2, c3, e1, e2, hr2⟩ := repC_sub p c _ 0 u _ hr hs
     have hcells := cellsAt_mid hg e1 rfl
     rw [show c1.length = o by omega] at hcells
     obtain ⟨cu, h1, h2⟩ := run_load_cells hti hcells ((repC_len u c2 hr2).trans q2)
     have fin0 := rep1_of_cells hr2 q3 h1
     unfold holeW at H
     split at H
     ·rename_i y _
      have plain : holeV h y K = K (.d y) → ∃ u cu, K u ∧ rep w M h u cu ∧ ∀ w', Ext w w' → (Instr.loadAt t (.pointer (some ⟨g, o, none⟩))).run P w' = .ok cu w' := fun e => ⟨.d y, cu, e ▸ H, rep_of_rep1 fin0, h2⟩
      cases y with
      | hole g' len cap =>
       obtain ⟨⟨j, c, n', xs', dp', sz, t'', e1, e2, e3, H⟩⟩ := (show HoW h g' len cap K from H)
       refine ⟨.own c 0 len, cu, H, ?_, h2⟩
       obtain ⟨a, ea, l1, l2, l3, l4⟩ : holeR g' len cap [cu] := fin0
       cases ea
       refine rep_own.2 ⟨a, cap, rfl, l1, l2, l3, ?_⟩
       rcases e3 with e3 | e3
       ·exact .inl e3
       ·rcases l4 with l4 | l4
        ·exact .inl l4
        ·obtain ⟨m, hm⟩ := at_lt (xs := M) (k := j) (by rw [hI.len]; exact (List.getElem?_eq_some_iff.1 e1).1)
         rcases hI.blk j _ _ e1 hm with h0 | ⟨F2, arr2, p1, p2, p3⟩
         ·omega
         ·have hn' : nOf h c = n' := by simp [nOf, e2]
          exact .inr ⟨g', F2, arr2, t'', p1, by rw [l4, hn', Nat.zero_mul], p2, by rw [hn', Nat.zero_add]; omega⟩
      | int _ _ => exact plain rfl
      | bool _ => exact plain rfl
      | str _ => exact plain rfl
      | st _ => exact plain rfl
      | lst _ => exact plain rfl
      | fnv _ => exact plain rfl
      | raw _ => exact plain rfl
     ·exact ⟨_, cu, H, rep_of_rep1 fin0, h2⟩
   ·exact H.elim
  ·exact H.elim
 ·-- pL
  rename_i b k p off
  obtain ⟨g, F, hM, rfl⟩ := rep_pL.1 hv
  split at H
  ·rename_i n xs dp hc
   obtain ⟨⟨y, hy, H⟩⟩ := H
   split at H
   ·rename_i u o hs
    cases hq : (Nat.beq o off && Nat.beq u.size i.size && (u.agg == i.agg) && (u.flat || !dp)) with
    | false => rw [hq] at H; exact H.elim
    | true =>
     rw [hq] at H
     simp only [Bool.and_eq_true, beq_iff_eq, nbeq, Bool.or_eq_true, Bool.not_eq_true'] at hq
     obtain ⟨⟨⟨rfl, q2⟩, q3⟩, q4⟩ := hq
     have hn : nOf h b = n := by simp [nOf, hc]
     obtain ⟨arr, t', hg, hsz, hel⟩ := hI.blk b _ _ hc hM
     have key : ∃ ces : List Value, (∀ (j : Nat) (v : Value), ces[j]? = some v → arr[k * n + j]? = some v) ∧ ∃ c1 c2 c3, ces = c1 ++ c2 ++ c3 ∧ 0 + c1.length = o ∧ repD M.O w u c2 := by
      cases dp with
      | true =>
       rw [if_pos rfl] at hel
       obtain ⟨F1, F2, F3, ces, rfl, k1, k2, k3⟩ := ownDe_get xs 0 F hel k y hy
       rw [Nat.zero_add] at k2
       have q4' : u.flat = true := by rcases q4 with q | q; exact q; cases q
       exact ⟨ces, k2, own_sub p y F2 ces 0 u o k3 hs q4'⟩
      | false =>
       rw [if_neg (by simp)] at hel
       obtain ⟨ces, k1, k2, k3⟩ := extDe_get xs 0 hel.2 k y hy
       rw [Nat.zero_add] at k2
       exact ⟨ces, k2, repD_sub p y ces 0 u o k3 hs⟩
     obtain ⟨ces, k2, c1, c2, c3, rfl, e2, hr2⟩ := key
     have hall : CellsAt w g (k * n) (c1 ++ c2 ++ c3) := fun j v hj => by simp [World.cell?, hg, k2 j v hj]
     have hcells := cellsAt_sub hall
     rw [show c1.length = o by omega] at hcells
     rw [hn]
     obtain ⟨cu, h1, h2⟩ := run_load_cells hti hcells ((repD_len u c2 hr2).trans q2)
     have fin : rep1 w M h (.d u) cu := rep1_of_cells (v := .d u) hr2 q3 h1
     have plain : holeV h u K = K (.d u) → ∃ u cu, K u ∧ rep w M h u cu ∧ ∀ w', Ext w w' → (Instr.loadAt t (.pointer (some ⟨g, k * n + o, none⟩))).run P w' = .ok cu w' := fun e => ⟨.d u, cu, e ▸ H, fin, h2⟩
     cases u with
     | hole g' len cap =>
      obtain ⟨⟨j, c, n', xs', dp', sz, t'', e1, e2, e3, H⟩⟩ := (show HoW h g' len cap K from H)
      refine ⟨.own c 0 len, cu, H, ?_, h2⟩
      obtain ⟨a, ea, l1, l2, l3, l4⟩ : holeR g' len cap [cu] := fin
      cases ea
      refine rep_own.2 ⟨a, cap, rfl, l1, l2, l3, ?_⟩
      rcases e3 with e3 | e3
      ·exact .inl e3
      ·rcases l4 with l4 | l4
       ·exact .inl l4
       ·obtain ⟨m, hm⟩ := at_lt (xs := M) (k := j) (by rw [hI.len]; exact (List.getElem?_eq_some_iff.1 e1).1)
        rcases hI.blk j _ _ e1 hm with h0 | ⟨F2, arr2, p1, p2, p3⟩
        ·omega
        ·have hn' : nOf h c = n' := by simp [nOf, e2]
         exact .inr ⟨g', F2, arr2, t'', p1, by rw [l4, hn', Nat.zero_mul], p2, by rw [hn', Nat.zero_add]; omega⟩
     | int _ _ => exact plain rfl
     | bool _ => exact plain rfl
     | str _ => exact plain rfl
     | st _ => exact plain rfl
     | lst _ => exact plain rfl
     | fnv _ => exact plain rfl
     | raw _ => exact plain rfl
   ·exact H.elim
  ·rename_i bs hc
   cases hq : (Nat.beq off 0 && Nat.beq i.size 1 && !i.agg) with
   | false => rw [hq] at H; exact H.elim
   | true =>
    rw [hq] at H
    simp only [Bool.and_eq_true, nbeq, Bool.not_eq_true'] at hq
    obtain ⟨⟨rfl, q2⟩, q3⟩ := hq
    obtain ⟨⟨y, hy, H⟩⟩ := H
    obtain ⟨rfl, arr, t', fz, hg, o1, o2, o3, o5, o4⟩ := hI.blk b _ _ hc hM
    rw [List.getElem?_map] at hy
    obtain ⟨c, hcb, rfl⟩ := Option.map_eq_some_iff.1 hy
    have hcell := o4 k c hcb
    have hn : nOf h b = 1 := by simp [nOf, hc]
    have hcells : CellsAt w g (k * nOf h b + 0) [.int .u8 (c.toNat : Nat)] := fun j v hj => by
     cases j with
     | zero =>
      obtain rfl : Value.int .u8 (c.toNat : Nat) = v := by simpa using hj
      simp only [hn, Nat.mul_one, Nat.add_zero, World.cell?, hg]
      exact hcell
     | succ j => simp at hj
    obtain ⟨cu, h1, h2⟩ := run_load_cells hti hcells q2.symm
    have hlt := c.toNat_lt
    have hr : repC w M h (.d (bD c)) [.int .u8 (c.toNat : Nat)] := ⟨rfl, by
     have e1 : IntKind.u8.min = 0 := rfl
     have e2 : IntKind.u8.max = 255 := rfl
     unfold inR; omega⟩
    exact ⟨.d (bD c), cu, H, rep_of_rep1 (rep1_of_cells (v := .d (bD c)) hr q3.symm h1), h2⟩
  ·exact H.elim
 ·exact H.elim
theorem field_sound (hT : TOk P tt) {s f : Nat} {v : V} {cv : Value} (hv : rep w M h v cv) (H : fieldV tt s v f K) :
  ∃ u cu, K u ∧ rep w M h u cu ∧ ∀ w', (Instr.fieldAt s cv f).run P w' = .ok cu w' := by
 unfold fieldV at H
 split at H
 ·rename_i i fs sz by' zr eq0 hi
  obtain ⟨fi, d, z, h1, h2, h3, h4, h5, h6, h7, h8, h9⟩ := (hT s _ hi).ex
  split at H
  ·rename_i off ft hf
   split at H
   ·rename_i j hj
    obtain ⟨fj, dj, zj, j1, j2, j3, j4, j5, j6, j7, j8, j9⟩ := (hT ft _ hj).ex
    cases hz : Nat.beq j.size 0 with
    | true => rw [hz] at H; exact H.elim
    | false =>
     rw [hz] at H
     have hz' : j.size ≠ 0 := fun e => by rw [e] at hz; cases hz
     cases d <;> first
      | exact (h6 : False).elim
      | skip
     rename_i fds
     have h6' : fds.toList.map (fun f => (f.offset, f.type)) = fs := h6
     have hfd : ∃ fd : Field, fds[f]? = some fd ∧ fd.offset = off ∧ fd.type = ft := by
      have : (fds.toList.map (fun f => (f.offset, f.type)))[f]? = some (off, ft) := by rw [h6']; exact hf
      rw [List.getElem?_map] at this
      obtain ⟨fd, e1, e2⟩ := Option.map_eq_some_iff.1 this
      rw [Array.getElem?_toList] at e1
      cases e2
      exact ⟨fd, e1, rfl, rfl⟩
     obtain ⟨fd, e1, rfl, rfl⟩ := hfd
     have run : ∀ (a : Addr) w', (Instr.fieldAt s (.pointer (some a)) f).run P w' = .ok (.pointer (some (a.add fd.offset))) w' := fun a w' => by
      simp only [Instr.fieldAt, Sem.run_bind, run_underlying h5, Result.andThen_ok, e1, Instr.sureAddr, Sem.run_pure, fieldPlace, sizeOf, typeInfo, run_program, j1, j2, if_neg hz']
     simp only [cond_false] at H
     split at H
     ·rename_i ds
      obtain ⟨b, o, ces, rfl, hb, hlt, hc, hr⟩ := rep_pX.1 hv
      split at H
      ·rename_i u o' hu
       cases hq : (Nat.beq o' fd.offset && Nat.beq u.size j.size) with
       | false => rw [hq] at H; exact H.elim
       | true =>
        rw [hq] at H
        simp only [Bool.and_eq_true, nbeq] at hq
        obtain ⟨rfl, q2⟩ := hq
        obtain ⟨c1, c2, c3, rfl, e2, hr2⟩ := repDs_fld ds ces f 0 u _ hr hu
        refine ⟨.pX u, _, H, rep_pX.2 ⟨b, o + fd.offset, c2, rfl, hb, hlt, ?_, hr2⟩, fun w' => by rw [run, addr_add_plain]⟩
        have := cellsAt_sub hc
        rw [show c1.length = fd.offset by omega] at this
        exact this
      ·exact H.elim
     ·rename_i b p o
      have H0 := BL H; clear H; obtain ⟨hlo, H⟩ := H0
      obtain ⟨g, F, hM, hcv⟩ := rep_pB.1 hv
      rw [pbv_lo (by have := Nat.le_of_ble_eq_true hlo; exact Nat.ble_eq_true_of_le (by omega))] at hcv
      subst hcv
      exact ⟨_, _, H, rep_pB.2 ⟨g, F, hM, rfl⟩, fun w' => by rw [run, addr_add_plain, pbv_lo hlo]⟩
     ·rename_i b k p o
      obtain ⟨g, F, hM, rfl⟩ := rep_pL.1 hv
      exact ⟨_, _, H, rep_pL.2 ⟨g, F, hM, rfl⟩, fun w' => by rw [run, addr_add_plain, Nat.add_assoc]⟩
     ·exact H.elim
   ·exact H.elim
  ·exact H.elim
 ·exact H.elim
theorem repDs_at {O : List Nat} {w : World} {n : Nat} : ∀ (ds : List D) (cs : List Value) (i : Nat) (y : D), (∀ y ∈ ds, y.size = n) → repDs O w ds cs → ds[i]? = some y → ∃ c1 c2 c3, cs = c1 ++ c2 ++ c3 ∧ c1.length = i * n ∧ repD O w y c2
 | [], cs, i, y, _, _, h => by simp at h
 | d :: ds, cs, 0, y, _, H, h => by
  obtain ⟨c1, c2, rfl, h1, h2⟩ := H
  obtain rfl : d = y := by simpa using h
  exact ⟨[], c1, c2, rfl, by simp, h1⟩
 | d :: ds, cs, i + 1, y, hs, H, h => by
  obtain ⟨c1, c2, rfl, h1, h2⟩ := H
  obtain ⟨p1, p2, p3, rfl, e, hr⟩ := repDs_at ds c2 i y (fun z hz => hs z (by simp [hz])) h2 (by simpa using h)
  refine ⟨c1 ++ p1, p2, p3, by simp, ?_, hr⟩
  rw [List.length_append, repD_len d c1 h1, hs d (by simp), e, Nat.add_mul, Nat.one_mul, Nat.add_comm]
theorem index_sound (hT : TOk P tt) {t : Nat} {x i : V} {cx ci : Value} (hx : rep w M h x cx) (hi : rep w M h i ci) (H : indexV tt t x i h K) :
  ∃ u cu, K u ∧ rep w M h u cu ∧ ∀ w', (Instr.indexAt t cx ci).run P w' = .ok cu w' := by
 unfold indexV at H
 split at H
 ·rename_i q e sz by' zr eq0 k i hti
  obtain ⟨fi, d, z, h1, h2, h3, h4, h5, h6, h7, h8, h9⟩ := (hT t _ hti).ex
  obtain ⟨rfl, hri⟩ := rep_int.1 hi
  split at H
  ·rename_i ie hie
   obtain ⟨fe, de, ze, e1, e2, e3, e4, e5, e6, e7, e8, e9⟩ := (hT _ _ hie).ex
   cases d <;> first
    | exact (h6 : False).elim
    | skip
   cases (h6 : _ = e)
   have run : ∀ (a : Addr) (len cap : Nat) w', 0 ≤ i → i < (len : Int) → (Instr.indexAt t (.slice (some a) len cap) (.int k i)).run P w' = .ok (.pointer (some (a.add (i.toNat * ie.size)))) w' := fun a len cap w' h0 hl => by
    simp only [Instr.indexAt, asIntOf, Sem.run_bind, Sem.run_pure, Result.andThen_ok, run_underlying h5, h0, hl, and_self, if_true, sizeOf, typeInfo, run_program, e1, e2]
   split at H
   ·rename_i b off len
    cases hq : Nat.beq (nOf h b) ie.size with
    | false => rw [hq] at H; exact H.elim
    | true =>
     rw [hq] at H
     obtain ⟨⟨h0, hl, H⟩⟩ := H
     have hq' := Nat.eq_of_beq_eq_true hq
     obtain ⟨a, cap, rfl, k1, k2, k3, k4⟩ := rep_own.1 hx
     rcases k4 with k4 | ⟨g, F, arr, t', m1, rfl, m3, m4⟩
     ·omega
     ·refine ⟨_, _, H, rep_pL.2 ⟨g, F, m1, rfl⟩, fun w' => ?_⟩
      rw [run _ _ _ _ h0 hl, addr_add_plain, ← hq', Nat.add_mul, Nat.add_zero, Nat.add_comm (i.toNat * _)]
   ·rename_i xs
    obtain ⟨⟨y, h0, hy, H⟩⟩ := H
    cases hq : Nat.beq y.size ie.size with
    | false => rw [hq] at H; exact H.elim
    | true =>
     rw [hq] at H
     have hq' := Nat.eq_of_beq_eq_true hq
     obtain ⟨a, cap, n, rfl, k1, k2, k3, k4⟩ := rep_lst.1 hx
     have hl : i.toNat < xs.length := (List.getElem?_eq_some_iff.1 hy).1
     obtain ⟨b, o, ces, rfl, m1, m2, m3, m4, m5⟩ := (repDe_get xs 0).1 k4 _ y hy
     rw [Nat.zero_add] at m3
     refine ⟨_, _, H, rep_pX.2 ⟨b, o + i.toNat * n, ces, rfl, m1, m2, m3, m5⟩, fun w' => ?_⟩
     rw [run _ _ _ _ h0 (by omega), addr_add_plain, ← hq', m4]
   ·rename_i b len rest off
    cases hq : (Nat.beq off 1000000009 && Nat.beq (nOf h b) ie.size && Nat.beq ie.size 1) with
    | false => rw [hq] at H; exact H.elim
    | true =>
     rw [hq] at H
     simp only [Bool.and_eq_true, nbeq] at hq
     obtain ⟨⟨rfl, q2⟩, q3⟩ := hq
     obtain ⟨⟨h0, hl, H⟩⟩ := H
     obtain ⟨g, F, m1, hcv⟩ := rep_pB.1 hx
     obtain rfl : cx = .slice (some ⟨g, 0, none⟩) len (rest.headD 0) := hcv
     refine ⟨_, _, H, rep_pL.2 ⟨g, F, m1, rfl⟩, fun w' => ?_⟩
     rw [run _ _ _ _ h0 hl, addr_add_plain, q2, Nat.zero_add, Nat.add_zero]
   ·exact H.elim
  ·exact H.elim
 ·rename_i q n e sz by' zr eq0 k i hti
  obtain ⟨fi, d, z, h1, h2, h3, h4, h5, h6, h7, h8, h9⟩ := (hT t _ hti).ex
  obtain ⟨rfl, hri⟩ := rep_int.1 hi
  split at H
  ·rename_i ie hie
   obtain ⟨fe, de, ze, e1, e2, e3, e4, e5, e6, e7, e8, e9⟩ := (hT _ _ hie).ex
   cases d <;> first
    | exact (h6 : False).elim
    | skip
   obtain ⟨rfl, rfl⟩ := (show _ = n ∧ _ = e from h6)
   split at H
   ·rename_i b
    cases hq : Nat.beq (nOf h b) ie.size with
    | false => rw [hq] at H; exact H.elim
    | true =>
     rw [hq] at H
     obtain ⟨⟨h0, hl, H⟩⟩ := H
     have hq' := Nat.eq_of_beq_eq_true hq
     obtain ⟨g, F, m1, rfl⟩ := rep_pL.1 hx
     refine ⟨_, _, H, rep_pL.2 ⟨g, F, m1, rfl⟩, fun w' => ?_⟩
     simp only [Instr.indexAt, asIntOf, Sem.run_bind, Sem.run_pure, Result.andThen_ok, run_underlying h5, Instr.sureAddr, h0, hl, and_self, if_true, sizeOf, typeInfo, run_program, e1, e2]
     rw [addr_add_plain, hq']
     simp
   ·rename_i ds
    obtain ⟨⟨hs, ⟨⟨rfl, ⟨⟨y, h0, hy, H⟩⟩⟩⟩⟩⟩ := H
    obtain ⟨b, o, ces, rfl, m1, m2, m3, m4⟩ := rep_pX.1 hx
    obtain ⟨c1, c2, c3, rfl, hc1, hr⟩ := repDs_at ds ces i.toNat y hs m4 hy
    have hcl := cellsAt_sub m3
    rw [hc1] at hcl
    have hl : i < (ds.length : Int) := by have := (List.getElem?_eq_some_iff.1 hy).1; omega
    refine ⟨_, _, H, rep_pX.2 ⟨b, o + i.toNat * ie.size, c2, rfl, m1, m2, hcl, hr⟩, fun w' => ?_⟩
    simp only [Instr.indexAt, asIntOf, Sem.run_bind, Sem.run_pure, Result.andThen_ok, run_underlying h5, Instr.sureAddr, h0, hl, and_self, if_true, sizeOf, typeInfo, run_program, e1, e2]
    rw [addr_add_plain]
   ·exact H.elim
  ·exact H.elim
 ·exact H.elim
end
end Go.Proofs.YtpdeibhedafcfaaGreatDoor
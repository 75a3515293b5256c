/- Plain law of the axes: no program in sight. -/
import Derived.Test.YtdeafbgnbgihgaaTypes
set_option linter.unusedSimpArgs false
set_option linter.unusedVariables false
namespace Go.Proofs.Ytdeafbgnbgihgaa
open Go.RowKit

def smB (c : UInt8) : Bool := decide ((97 : Int) ≤ c.toNat) && decide ((c.toNat : Int) ≤ 122)
def dgB (c : UInt8) : Bool := decide ((48 : Int) ≤ c.toNat) && decide ((c.toNat : Int) ≤ 57)
def nmC (c : UInt8) : Bool := smB c || dgB c || decide ((c.toNat : Int) = 46)
def nmL : List UInt8 → Bool
  | [] => false
  | c :: t => smB c && t.all nmC
/-- is this a name? -/
def nameB (s : ByteArray) : Bool := decide (s.size ≤ 12) && nmL s.data.toList
theorem bgetN {s : ByteArray} {k : Nat} (h : k < s.size) : s.data.toList[k]? = some (s[k]'h) := by
  have h' : k < s.data.toList.length := h
  rw [List.getElem?_eq_getElem h']
  rfl
theorem toL_inj {a b : ByteArray} (h : a.toList = b.toList) : a = b := by
  rw [ByteArray.toList_eq, ByteArray.toList_eq] at h
  exact ByteArray.ext (Array.toList_inj.mp h)
theorem bget? {s : ByteArray} {k : Nat} (h : k < s.size) : s[k]? = some (s[k]'h) := by simp [h]
theorem dropN {s : ByteArray} {k : Nat} (h : k < s.size) : s.data.toList.drop k = s[k]'h :: s.data.toList.drop (k + 1) := by
  have := bgetN h
  have h' : k < s.data.toList.length := h
  rw [List.drop_eq_getElem_cons h']
  rfl
theorem smB_nmC {c : UInt8} (h : smB c = true) : nmC c = true := by simp [nmC, h]
theorem nameB_nil {s : ByteArray} (h : s.size = 0) : nameB s = false := by
  have : s.data.toList = [] := List.eq_nil_of_length_eq_zero h
  simp [nameB, this, nmL]
theorem nameB_cons {s : ByteArray} (h : 0 < s.size) : nameB s = (decide (s.size ≤ 12) && (smB (s[0]'h) && (s.data.toList.drop 1).all nmC)) := by
  rw [nameB]
  conv => lhs; rw [← List.drop_zero (l := s.data.toList), dropN h]
  rfl

def nrm (a : Int) : Bool := decide (-16384 ≤ a) && decide (a ≤ 16384)
def inB (n lo hi : Int) : Bool := decide (lo ≤ n) && decide (n ≤ hi)

def divR (n d : Int) : Int := if d ≤ 0 then 0 else if d - n % d ≤ n % d then n / d + 1 else n / d
theorem div_facts {n d : Int} (hd : 0 < d) (h1 : -9223372036854775808 ≤ n) (h2 : n ≤ 9223372036854775807) : 0 ≤ n % d ∧ n % d < d ∧ -9223372036854775808 ≤ n / d ∧ n / d ≤ 9223372036854775807 ∧ (2 ≤ d → -4611686018427387904 ≤ n / d ∧ n / d ≤ 4611686018427387903) := by
  have hm := Int.emod_add_mul_ediv n d
  have a := Int.emod_nonneg n (show d ≠ 0 by omega)
  have b := Int.emod_lt_of_pos n hd
  refine ⟨a, b, ?_, ?_, fun h => ⟨?_, ?_⟩⟩
  · exact (Int.le_ediv_iff_mul_le hd).2 (by have : -9223372036854775808 * d ≤ -9223372036854775808 * 1 := Int.mul_le_mul_of_nonpos_left (by omega) (by omega); omega)
  · have : n / d < 9223372036854775808 := (Int.ediv_lt_iff_lt_mul hd).2 (by have : 9223372036854775808 * 1 ≤ 9223372036854775808 * d := Int.mul_le_mul_of_nonneg_left (by omega) (by omega); omega)
    omega
  · exact (Int.le_ediv_iff_mul_le hd).2 (by have : -4611686018427387904 * d ≤ -4611686018427387904 * 2 := Int.mul_le_mul_of_nonpos_left (by omega) (by omega); omega)
  · have : n / d < 4611686018427387904 := (Int.ediv_lt_iff_lt_mul hd).2 (by have : 4611686018427387904 * 2 ≤ 4611686018427387904 * d := Int.mul_le_mul_of_nonneg_left (by omega) (by omega); omega)
    omega
/-- Go's own quotient and remainder against the floor's -/
theorem tdiv_facts {n d : Int} (hd : 0 < d) :
    (n.tmod d < 0 → n.tdiv d - 1 = n / d ∧ n.tmod d + d = n % d ∧ -d < n.tmod d ∧ 2 ≤ d) ∧ (0 ≤ n.tmod d → n.tdiv d = n / d ∧ n.tmod d = n % d) := by
  have e := Int.tmod_add_mul_tdiv n d
  have e' := Int.emod_add_mul_ediv n d
  have a := Int.emod_nonneg n (show d ≠ 0 by omega)
  have b := Int.emod_lt_of_pos n hd
  have c := Int.lt_tmod_of_pos n hd
  have c' := Int.tmod_lt_of_pos n hd
  constructor
  · intro h
    have h1 : d * (n.tdiv d - 1) + (n.tmod d + d) = n := by rw [Int.mul_sub]; omega
    have h2 : n / d = n.tdiv d - 1 := by
      have := Int.ediv_emod_unique hd (a := n) (r := n.tmod d + d) (q := n.tdiv d - 1)
      exact (this.2 ⟨by rw [Int.add_comm]; exact h1, by omega, by omega⟩).1
    have h3 : n % d = n.tmod d + d := by
      have := Int.ediv_emod_unique hd (a := n) (r := n.tmod d + d) (q := n.tdiv d - 1)
      exact (this.2 ⟨by rw [Int.add_comm]; exact h1, by omega, by omega⟩).2
    exact ⟨h2.symm, h3.symm, c, by omega⟩
  · intro h
    have := Int.ediv_emod_unique hd (a := n) (r := n.tmod d) (q := n.tdiv d)
    have := this.2 ⟨e, h, c'⟩
    exact ⟨this.1.symm, this.2.symm⟩
theorem divR_pos {n d : Int} (hd : 0 < d) : divR n d = if d - n % d ≤ n % d then n / d + 1 else n / d := if_neg (by omega)

def apB (x : TAxisPoint) : Bool := nrm x.fFrom && nrm x.fTo
def apLt (q p : TAxisPoint) : Bool := decide (q.fFrom < p.fFrom) && decide (q.fTo ≤ p.fTo)
def mpGo : Option TAxisPoint → List TAxisPoint → Bool
  | _, [] => true
  | none, p :: t => apB p && mpGo (some p) t
  | some q, p :: t => (apB p && apLt q p) && mpGo (some p) t
def pv {α : Type} (xs : List α) (k : Nat) : Option α := if k = 0 then none else xs[k - 1]?
theorem pv_succ {α : Type} (xs : List α) (k : Nat) : pv xs (k + 1) = xs[k]? := by simp [pv]
theorem pv_zero {α : Type} (xs : List α) : pv xs 0 = none := rfl
theorem pv_pos {α : Type} (xs : List α) {k : Nat} (h : 0 < k) : pv xs k = xs[k - 1]? := by rw [pv, if_neg (by omega)]
def ltO (o : Option TAxisPoint) (x : TAxisPoint) : Bool := match o with | none => true | some q => apLt q x
theorem mpGo_cons (o : Option TAxisPoint) (x : TAxisPoint) (t : List TAxisPoint) : mpGo o (x :: t) = (apB x && ltO o x && mpGo (some x) t) := by
  cases o <;> simp [mpGo, ltO]
def fixB (x : TAxisPoint) : Bool := decide (x.fFrom = x.fTo) && (decide (x.fFrom = 0) || decide (x.fFrom = 16384) || decide (x.fFrom = -16384))
def fixN : List TAxisPoint → Nat
  | [] => 0
  | x :: t => (if fixB x = true then 1 else 0) + fixN t
theorem fixN_le : ∀ xs : List TAxisPoint, fixN xs ≤ xs.length
  | [] => Nat.le_refl _
  | x :: t => by
    have := fixN_le t
    simp only [fixN, List.length_cons]
    split <;> omega
/-- is this the map of an axis? -/
def mapB (xs : List TAxisPoint) : Bool := xs.isEmpty || (mpGo none xs && decide (fixN xs = 3) && decide (xs.length ≤ 6))
def hasB (n : Int) (xs : List TAxisPoint) : Bool := xs.any (fun x : TAxisPoint => (n == x.fFrom) && (n == x.fTo))
def cntN (n : Int) : List TAxisPoint → Nat
  | [] => 0
  | x :: t => (if (n == x.fFrom) && (n == x.fTo) then 1 else 0) + cntN n t
theorem cntN_has (n : Int) : ∀ xs : List TAxisPoint, (0 < cntN n xs) = (hasB n xs = true)
  | [] => by simp [cntN, hasB]
  | x :: t => by
    have := cntN_has n t
    simp only [cntN, hasB, List.any_cons, Bool.or_eq_true] at this ⊢
    by_cases h : ((n == x.fFrom) && (n == x.fTo)) = true
    · simp [h]
      omega
    · rw [if_neg h]
      simp only [Bool.eq_false_iff.2 h, Nat.zero_add]
      rw [this]
      simp
theorem fixN_sum : ∀ xs : List TAxisPoint, fixN xs = cntN (-16384) xs + cntN 0 xs + cntN 16384 xs
  | [] => rfl
  | x :: t => by
    have := fixN_sum t
    simp only [fixN, cntN, fixB, this]
    grind
/-- behind a point every other lies farther on -/
theorem mpGo_low : ∀ (xs : List TAxisPoint) (q : TAxisPoint), mpGo (some q) xs = true → ∀ n : Int, n ≤ q.fFrom → cntN n xs = 0
  | [], _, _, _, _ => rfl
  | x :: t, q, h, n, hn => by
    simp only [mpGo, apLt, Bool.and_eq_true, decide_eq_true_eq] at h
    have := mpGo_low t x h.2 n (by omega)
    simp only [cntN, this]
    rw [if_neg]
    simp
    omega
theorem mpGo_one : ∀ (xs : List TAxisPoint) (o : Option TAxisPoint), mpGo o xs = true → ∀ n : Int, cntN n xs ≤ 1
  | [], _, _, _ => by simp [cntN]
  | x :: t, o, h, n => by
    rw [mpGo_cons] at h
    simp only [Bool.and_eq_true] at h
    simp only [cntN]
    split
    · rename_i h'
      simp only [Bool.and_eq_true, beq_iff_eq] at h'
      have := mpGo_low t x h.2 n (by omega)
      omega
    · have := mpGo_one t (some x) h.2 n
      omega
theorem mapB_has (xs : List TAxisPoint) (h : mpGo none xs = true) : decide (fixN xs = 3) = (hasB (-16384) xs && hasB 0 xs && hasB 16384 xs) := by
  have a := mpGo_one xs none h (-16384)
  have b := mpGo_one xs none h 0
  have c := mpGo_one xs none h 16384
  have a' := cntN_has (-16384) xs
  have b' := cntN_has 0 xs
  have c' := cntN_has 16384 xs
  rw [Bool.eq_iff_iff]
  simp only [Bool.and_eq_true, decide_eq_true_eq, fixN_sum, ← a', ← b', ← c']
  omega
theorem fixN_app : ∀ a b : List TAxisPoint, fixN (a ++ b) = fixN a + fixN b
  | [], b => by simp [fixN]
  | x :: t, b => by simp only [List.cons_append, fixN, fixN_app t b]; omega
theorem fixN_take {xs : List TAxisPoint} {k : Nat} {x : TAxisPoint} (hx : xs[k]? = some x) : fixN (xs.take (k + 1)) = fixN (xs.take k) + (if fixB x = true then 1 else 0) := by
  rw [List.take_add_one, hx, fixN_app]
  simp [fixN]
theorem drop_at {α : Type} {xs : List α} {k : Nat} {x : α} (hx : xs[k]? = some x) : xs.drop k = x :: xs.drop (k + 1) := by
  obtain ⟨h, rfl⟩ := List.getElem?_eq_some_iff.1 hx
  exact List.drop_eq_getElem_cons h
theorem at_lt' {α : Type} {xs : List α} {k : Nat} (h : k < xs.length) : ∃ x, xs[k]? = some x := ⟨xs[k], by simp [h]⟩
theorem mapB_no {xs : List TAxisPoint} (h0 : 0 < xs.length) (h : mpGo none xs = false) : mapB xs = false := by
  cases xs with
  | nil => exact absurd h0 (by decide)
  | cons x t => simp [mapB, h]
theorem mapB_yes {xs : List TAxisPoint} (h0 : 0 < xs.length) (h : mpGo none xs = true) : mapB xs = (decide (fixN xs = 3) && decide (xs.length ≤ 6)) := by
  cases xs with
  | nil => exact absurd h0 (by decide)
  | cons x t => simp [mapB, h]
theorem wrap_rem {n d : Int} (h0 : 0 < d) (hd : d ≤ 9223372036854775807) (n1 : -9223372036854775808 ≤ n) (n2 : n ≤ 9223372036854775807) : n % d = IntKind.i64.wrap (n - IntKind.i64.wrap (n / d * d)) := by
  have a := Int.emod_nonneg n (show d ≠ 0 by omega)
  have b := Int.emod_lt_of_pos n h0
  have e := Int.emod_add_mul_ediv n d
  rw [Int.mul_comm] at e
  generalize n / d * d = t at *
  generalize n % d = r at *
  obtain rfl : n = r + t := by omega
  simp only [IntKind.wrap_i64]
  omega
end Go.Proofs.Ytdeafbgnbgihgaa

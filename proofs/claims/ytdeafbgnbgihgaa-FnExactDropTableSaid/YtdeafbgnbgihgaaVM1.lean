/- The abstract machine, first part: data, abstract values, how they lie in memory, and what keeps them there. Leans on no program. -/
import Derived.Test.YtdeafbgnbgihgaaBase
set_option linter.unusedSimpArgs false
set_option linter.unusedVariables false
namespace Go.Proofs.Ytdeafbgnbgihgaa
open Go.RowKit

/-! ### pure data -/
inductive D where
  | int (k : IntKind) (n : Int)
  | bool (b : Bool)
  | str (s : ByteArray)
  | st (fs : List D)
  | lst (xs : List D)
  /-- a slice whose memory is a block told elsewhere -/
  | hole (g len cap : Nat)
  /-- a function without captures -/
  | fnv (f : Fn)

mutual
def D.size : D → Nat
  | .st fs => D.sizes fs
  | .int _ _ => 1
  | .bool _ => 1
  | .str _ => 1
  | .lst _ => 1
  | .hole _ _ _ => 1
  | .fnv _ => 1
def D.sizes : List D → Nat
  | [] => 0
  | f :: fs => f.size + D.sizes fs
end
mutual
/-- no slice inside -/
def D.flat : D → Bool
  | .st fs => D.flats fs
  | .lst _ => false
  | .int _ _ => true
  | .bool _ => true
  | .str _ => true
  | .hole _ _ _ => true
  | .fnv _ => true
def D.flats : List D → Bool
  | [] => true
  | f :: fs => f.flat && D.flats fs
end
def D.agg : D → Bool
  | .st _ => true
  | _ => false

def holeR (g len cap : Nat) (cs : List Value) : Prop := ∃ a, cs = [.slice a len cap] ∧ len ≤ cap ∧ cap ≤ maxLen ∧ (a = none → cap = 0) ∧ (cap = 0 ∨ a = some ⟨g, 0, none⟩)
def inR (k : IntKind) (n : Int) : Prop := k.min ≤ n ∧ n ≤ k.max

mutual
/-- these cells read as x, in memory outside the blocks O -/
def repD (O : List Nat) (w : World) : D → List Value → Prop
  | .int k n, cs => cs = [.int k n] ∧ inR k n
  | .bool b, cs => cs = [.bool b]
  | .str s, cs => cs = [.string s] ∧ s.size ≤ maxLen
  | .st fs, cs => repDs O w fs cs
  | .hole g len cap, cs => holeR g len cap cs
  | .fnv f, cs => cs = [.func f #[] #[]]
  | .lst xs, cs => ∃ a cap n, cs = [.slice a xs.length cap] ∧ xs.length ≤ cap ∧ cap ≤ maxLen ∧ (a = none → cap = 0) ∧ repDe O w a n xs 0
def repDs (O : List Nat) (w : World) : List D → List Value → Prop
  | [], cs => cs = []
  | f :: fs, cs => ∃ c1 c2, cs = c1 ++ c2 ∧ repD O w f c1 ∧ repDs O w fs c2
def repDe (O : List Nat) (w : World) (a : Option Addr) (n : Nat) : List D → Nat → Prop
  | [], _ => True
  | x :: xs, i => (∃ b o ces, a = some ⟨b, o, none⟩ ∧ b ∉ O ∧ b < w.heap.size ∧ CellsAt w b (o + i * n) ces ∧ x.size = n ∧ repD O w x ces) ∧ repDe O w a n xs (i + 1)
end
mutual
/-- these cells read as x, and the memory behind them is just the blocks F, each met once, each held whole -/
def ownD (w : World) : D → List Nat → List Value → Prop
  | .int k n, F, cs => F = [] ∧ cs = [.int k n] ∧ inR k n
  | .bool b, F, cs => F = [] ∧ cs = [.bool b]
  | .str s, F, cs => F = [] ∧ cs = [.string s] ∧ s.size ≤ maxLen
  | .st fs, F, cs => ownDs w fs F cs
  | .hole g len cap, F, cs => F = [] ∧ holeR g len cap cs
  | .fnv f, F, cs => F = [] ∧ cs = [.func f #[] #[]]
  | .lst xs, F, cs => ∃ a cap, cs = [.slice a xs.length cap] ∧ xs.length ≤ cap ∧ cap ≤ maxLen ∧ (a = none → cap = 0) ∧
      ((xs = [] ∧ F = [] ∧ cap = 0) ∨ ∃ g arr t n F', a = some ⟨g, 0, none⟩ ∧ w.heap[g]? = some (.cells arr t (0, 0)) ∧ cap * n ≤ arr.size ∧ F = g :: F' ∧ ownDe w arr n xs 0 F')
def ownDs (w : World) : List D → List Nat → List Value → Prop
  | [], F, cs => F = [] ∧ cs = []
  | f :: fs, F, cs => ∃ F1 F2 c1 c2, F = F1 ++ F2 ∧ cs = c1 ++ c2 ∧ ownD w f F1 c1 ∧ ownDs w fs F2 c2
def ownDe (w : World) (arr : Array Value) (n : Nat) : List D → Nat → List Nat → Prop
  | [], _, F => F = []
  | x :: xs, i, F => ∃ F1 F2 ces, F = F1 ++ F2 ∧ x.size = n ∧ (∀ j v, ces[j]? = some v → arr[i * n + j]? = some v) ∧ ownD w x F1 ces ∧ ownDe w arr n xs (i + 1) F2
end

mutual
theorem repD_len {O : List Nat} {w : World} : ∀ (x : D) (cs : List Value), repD O w x cs → cs.length = x.size
  | .int k n, cs, h => by obtain ⟨rfl, _⟩ := h; rfl
  | .bool b, cs, h => by cases h; rfl
  | .str s, cs, h => by obtain ⟨rfl, _⟩ := h; rfl
  | .lst xs, cs, h => by obtain ⟨_, _, _, rfl, _⟩ := h; rfl
  | .hole _ _ _, cs, h => by obtain ⟨_, rfl, _⟩ := h; rfl
  | .fnv _, cs, h => by cases h; rfl
  | .st fs, cs, h => repDs_len fs cs h
theorem repDs_len {O : List Nat} {w : World} : ∀ (fs : List D) (cs : List Value), repDs O w fs cs → cs.length = D.sizes fs
  | [], cs, h => by cases h; rfl
  | f :: fs, cs, h => by
    obtain ⟨c1, c2, rfl, h1, h2⟩ := h
    rw [List.length_append, repD_len f c1 h1, repDs_len fs c2 h2]; rfl
end
mutual
/-- what is read stays, if the blocks outside O stay and stay outside -/
theorem repD_mv {O O' : List Nat} {w w' : World} (H : ∀ b, b ∉ O → b < w.heap.size → b ∉ O' ∧ w'.heap[b]? = w.heap[b]?) : ∀ (x : D) (cs : List Value), repD O w x cs → repD O' w' x cs
  | .int k n, cs, h => h
  | .bool b, cs, h => h
  | .str s, cs, h => h
  | .hole _ _ _, cs, h => h
  | .fnv _, cs, h => h
  | .lst xs, cs, h => by
    obtain ⟨a, cap, n, h1, h2, h3, h4, h5⟩ := h
    exact ⟨a, cap, n, h1, h2, h3, h4, repDe_mv H a n xs 0 h5⟩
  | .st fs, cs, h => repDs_mv H fs cs h
theorem repDs_mv {O O' : List Nat} {w w' : World} (H : ∀ b, b ∉ O → b < w.heap.size → b ∉ O' ∧ w'.heap[b]? = w.heap[b]?) : ∀ (fs : List D) (cs : List Value), repDs O w fs cs → repDs O' w' fs cs
  | [], cs, h => h
  | f :: fs, cs, h => by
    obtain ⟨c1, c2, e, h1, h2⟩ := h
    exact ⟨c1, c2, e, repD_mv H f c1 h1, repDs_mv H fs c2 h2⟩
theorem repDe_mv {O O' : List Nat} {w w' : World} (H : ∀ b, b ∉ O → b < w.heap.size → b ∉ O' ∧ w'.heap[b]? = w.heap[b]?) (a : Option Addr) (n : Nat) : ∀ (xs : List D) (i : Nat), repDe O w a n xs i → repDe O' w' a n xs i
  | [], i, h => h
  | x :: xs, i, h => by
    obtain ⟨⟨b, o, ces, e, h1, h2, h3, h4, h5⟩, h6⟩ := h
    obtain ⟨k1, k2⟩ := H b h1 h2
    refine ⟨⟨b, o, ces, e, k1, ?_, fun j v hj => ?_, h4, repD_mv H x ces h5⟩, repDe_mv H a n xs (i + 1) h6⟩
    · rcases Nat.lt_or_ge b w'.heap.size with hlt | hge
      · exact hlt
      · rw [Array.getElem?_eq_none hge] at k2
        rw [Array.getElem?_eq_getElem h2] at k2
        cases k2
    · have := h3 j v hj
      simp only [World.cell?, k2] at this ⊢
      exact this
end
mutual
theorem ownD_mv {w w' : World} : ∀ (x : D) (F : List Nat) (cs : List Value), (∀ b ∈ F, w'.heap[b]? = w.heap[b]?) → ownD w x F cs → ownD w' x F cs
  | .int k n, F, cs, _, h => h
  | .bool b, F, cs, _, h => h
  | .str s, F, cs, _, h => h
  | .hole _ _ _, F, cs, _, h => h
  | .fnv _, F, cs, _, h => h
  | .lst xs, F, cs, H, h => by
    obtain ⟨a, cap, h1, h2, h3, h4, h5⟩ := h
    refine ⟨a, cap, h1, h2, h3, h4, ?_⟩
    rcases h5 with h5 | ⟨g, arr, t, n, F', e, hg, hc, rfl, h6⟩
    · exact .inl h5
    · exact .inr ⟨g, arr, t, n, F', e, by rw [H g (by simp)]; exact hg, hc, rfl, ownDe_mv arr n xs 0 F' (fun b hb => H b (by simp [hb])) h6⟩
  | .st fs, F, cs, H, h => ownDs_mv fs F cs H h
theorem ownDs_mv {w w' : World} : ∀ (fs : List D) (F : List Nat) (cs : List Value), (∀ b ∈ F, w'.heap[b]? = w.heap[b]?) → ownDs w fs F cs → ownDs w' fs F cs
  | [], F, cs, _, h => h
  | f :: fs, F, cs, H, h => by
    obtain ⟨F1, F2, c1, c2, rfl, e, h1, h2⟩ := h
    exact ⟨F1, F2, c1, c2, rfl, e, ownD_mv f F1 c1 (fun b hb => H b (by simp [hb])) h1, ownDs_mv fs F2 c2 (fun b hb => H b (by simp [hb])) h2⟩
theorem ownDe_mv {w w' : World} (arr : Array Value) (n : Nat) : ∀ (xs : List D) (i : Nat) (F : List Nat), (∀ b ∈ F, w'.heap[b]? = w.heap[b]?) → ownDe w arr n xs i F → ownDe w' arr n xs i F
  | [], i, F, _, h => h
  | x :: xs, i, F, H, h => by
    obtain ⟨F1, F2, ces, rfl, h1, h2, h3, h4⟩ := h
    exact ⟨F1, F2, ces, rfl, h1, h2, ownD_mv x F1 ces (fun b hb => H b (by simp [hb])) h3, ownDe_mv arr n xs (i + 1) F2 (fun b hb => H b (by simp [hb])) h4⟩
end
mutual
theorem ownD_lt {w : World} : ∀ (x : D) (F : List Nat) (cs : List Value), ownD w x F cs → ∀ b ∈ F, b < w.heap.size
  | .int k n, F, cs, h => by obtain ⟨rfl, _⟩ := h; simp
  | .bool b, F, cs, h => by obtain ⟨rfl, _⟩ := h; simp
  | .str s, F, cs, h => by obtain ⟨rfl, _⟩ := h; simp
  | .hole _ _ _, F, cs, h => by obtain ⟨rfl, _⟩ := h; simp
  | .fnv _, F, cs, h => by obtain ⟨rfl, _⟩ := h; simp
  | .lst xs, F, cs, h => by
    obtain ⟨a, cap, h1, h2, h3, h4, h5⟩ := h
    rcases h5 with ⟨_, rfl, _⟩ | ⟨g, arr, t, n, F', e, hg, _, rfl, h6⟩
    · simp
    · intro b hb
      rcases List.mem_cons.1 hb with rfl | hb
      · exact lt_of_heap hg
      · exact ownDe_lt arr n xs 0 F' h6 b hb
  | .st fs, F, cs, h => ownDs_lt fs F cs h
theorem ownDs_lt {w : World} : ∀ (fs : List D) (F : List Nat) (cs : List Value), ownDs w fs F cs → ∀ b ∈ F, b < w.heap.size
  | [], F, cs, h => by obtain ⟨rfl, _⟩ := h; simp
  | f :: fs, F, cs, h => by
    obtain ⟨F1, F2, c1, c2, rfl, e, h1, h2⟩ := h
    intro b hb
    rcases List.mem_append.1 hb with hb | hb
    · exact ownD_lt f F1 c1 h1 b hb
    · exact ownDs_lt fs F2 c2 h2 b hb
theorem ownDe_lt {w : World} (arr : Array Value) (n : Nat) : ∀ (xs : List D) (i : Nat) (F : List Nat), ownDe w arr n xs i F → ∀ b ∈ F, b < w.heap.size
  | [], i, F, h => by cases h; simp
  | x :: xs, i, F, h => by
    obtain ⟨F1, F2, ces, rfl, h1, h2, h3, h4⟩ := h
    intro b hb
    rcases List.mem_append.1 hb with hb | hb
    · exact ownD_lt x F1 ces h3 b hb
    · exact ownDe_lt arr n xs (i + 1) F2 h4 b hb
end
mutual
/-- what is owned reads, for those who keep off it -/
theorem ownD_rep {O : List Nat} {w : World} : ∀ (x : D) (F : List Nat) (cs : List Value), (∀ b ∈ F, b ∉ O) → ownD w x F cs → repD O w x cs
  | .int k n, F, cs, _, h => h.2
  | .bool b, F, cs, _, h => h.2
  | .str s, F, cs, _, h => h.2
  | .hole _ _ _, F, cs, _, h => h.2
  | .fnv _, F, cs, _, h => h.2
  | .lst xs, F, cs, H, h => by
    obtain ⟨a, cap, h1, h2, h3, h4, h5⟩ := h
    rcases h5 with ⟨rfl, _, _⟩ | ⟨g, arr, t, n, F', e, hg, _, rfl, h6⟩
    · exact ⟨a, cap, 0, h1, h2, h3, h4, trivial⟩
    · exact ⟨a, cap, n, h1, h2, h3, h4, ownDe_rep hg (H g (by simp)) e n xs 0 F' (fun b hb => H b (by simp [hb])) h6⟩
  | .st fs, F, cs, H, h => ownDs_rep fs F cs H h
theorem ownDs_rep {O : List Nat} {w : World} : ∀ (fs : List D) (F : List Nat) (cs : List Value), (∀ b ∈ F, b ∉ O) → ownDs w fs F cs → repDs O w fs cs
  | [], F, cs, _, h => h.2
  | f :: fs, F, cs, H, h => by
    obtain ⟨F1, F2, c1, c2, rfl, e, h1, h2⟩ := h
    exact ⟨c1, c2, e, ownD_rep f F1 c1 (fun b hb => H b (by simp [hb])) h1, ownDs_rep fs F2 c2 (fun b hb => H b (by simp [hb])) h2⟩
theorem ownDe_rep {O : List Nat} {w : World} {g : Nat} {arr : Array Value} {t : TypeId} {a : Option Addr} (hg : w.heap[g]? = some (.cells arr t (0, 0))) (hO : g ∉ O) (e : a = some ⟨g, 0, none⟩) (n : Nat) : ∀ (xs : List D) (i : Nat) (F : List Nat), (∀ b ∈ F, b ∉ O) → ownDe w arr n xs i F → repDe O w a n xs i
  | [], i, F, _, h => trivial
  | x :: xs, i, F, H, h => by
    obtain ⟨F1, F2, ces, rfl, h1, h2, h3, h4⟩ := h
    refine ⟨⟨g, 0, ces, e, hO, lt_of_heap hg, fun j v hj => ?_, h1, ownD_rep x F1 ces (fun b hb => H b (by simp [hb])) h3⟩, ownDe_rep hg hO e n xs (i + 1) F2 (fun b hb => H b (by simp [hb])) h4⟩
    have := h2 j v hj
    simp [World.cell?, hg, this]
end
mutual
/-- flat data owns no block -/
theorem flat_own {O : List Nat} {w : World} : ∀ (x : D) (cs : List Value), x.flat = true → repD O w x cs → ownD w x [] cs
  | .int k n, cs, _, h => ⟨rfl, h⟩
  | .bool b, cs, _, h => ⟨rfl, h⟩
  | .str s, cs, _, h => ⟨rfl, h⟩
  | .hole _ _ _, cs, _, h => ⟨rfl, h⟩
  | .fnv _, cs, _, h => ⟨rfl, h⟩
  | .lst xs, cs, hf, h => by cases hf
  | .st fs, cs, hf, h => flats_own fs cs hf h
theorem flats_own {O : List Nat} {w : World} : ∀ (fs : List D) (cs : List Value), D.flats fs = true → repDs O w fs cs → ownDs w fs [] cs
  | [], cs, _, h => ⟨rfl, h⟩
  | f :: fs, cs, hf, h => by
    obtain ⟨c1, c2, e, h1, h2⟩ := h
    simp only [D.flats, Bool.and_eq_true] at hf
    exact ⟨[], [], c1, c2, rfl, e, flat_own f c1 hf.1 h1, flats_own fs c2 hf.2 h2⟩
end

theorem repDe_get {O : List Nat} {w : World} {a : Option Addr} {n : Nat} : ∀ (xs : List D) (i0 : Nat), repDe O w a n xs i0 ↔ ∀ i x, xs[i]? = some x → ∃ b o ces, a = some ⟨b, o, none⟩ ∧ b ∉ O ∧ b < w.heap.size ∧ CellsAt w b (o + (i0 + i) * n) ces ∧ x.size = n ∧ repD O w x ces
  | [], i0 => by simp [repDe]
  | x :: xs, i0 => by
    rw [repDe, repDe_get xs (i0 + 1)]
    constructor
    · rintro ⟨h1, h2⟩ i y hy
      cases i with
      | zero => simp at hy; subst hy; exact h1
      | succ i => have := h2 i y (by simpa using hy); rw [show i0 + 1 + i = i0 + (i + 1) by omega] at this; exact this
    · intro h
      refine ⟨h 0 x rfl, fun i y hy => ?_⟩
      have := h (i + 1) y (by simpa using hy)
      rw [show i0 + (i + 1) = i0 + 1 + i by omega] at this; exact this
end Go.Proofs.Ytdeafbgnbgihgaa

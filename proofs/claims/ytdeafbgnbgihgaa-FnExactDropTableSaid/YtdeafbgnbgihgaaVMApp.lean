/- The abstract machine: append. Leans on no program. -/
import Derived.Test.YtdeafbgnbgihgaaVMMake
import Derived.Lib.AppendStr
set_option linter.unusedSimpArgs false
set_option linter.unusedVariables false
namespace Go.Proofs.Ytdeafbgnbgihgaa
open Go.RowKit

/-- what is appended: its elements, the blocks that are taken over, whether its elements are held whole -/
def srcV (h : List Blk) (n : Nat) (x : V) (K : List D → List Nat → Bool → Prop) : Prop :=
  match x with
  | .nils => K [] [] true
  | .d (.lst ys) => FlW ys n (K ys [] true) (K ys [] false)
  | .d (.str s) => bif Nat.beq n 1 then K (s.data.toList.map bD) [] true else False
  | .own c off len => match h[c]? with
    | some (.arr n' ys dp) => bif Nat.beq n' n then TkW off len ys (K ys [c] dp) else False
    | _ => False
  | _ => False
/-- elements of others, as they are -/
def srcX (n : Nat) (x : V) (K : List D → Prop) : Prop :=
  match x with
  | .d (.lst ys) => SzW n ys (K ys)
  | _ => False
/-- what may stand behind the dots -/
def isSrc : Option TI → V → Bool
  | some { kind := .str, .. }, .d (.str _) => true
  | some { kind := .sl _, .. }, .d (.str _) => false
  | some { kind := .sl _, .. }, _ => true
  | _, _ => false
theorem isSrc_spec {P : Program} {tt : TT} (hT : TOk P tt) {tx : Nat} {x : V} (H : isSrc (tt tx) x = true) : (∃ ex, P.underlying tx = some (.slice ex)) ∨ P.underlying tx = some .string := by
  cases hi : tt tx with
  | none => rw [hi] at H; cases H
  | some i =>
    obtain ⟨f, d, z, h1, h2, h3, h4, h5, h6, _⟩ := (hT tx i hi).ex
    rw [hi] at H
    obtain ⟨k, sz, b, z0, eq⟩ := i
    cases k <;> first
      | (cases H; done)
      | (cases d <;> first
          | exact (h6 : False).elim
          | exact .inr h5
          | exact .inl ⟨_, h5⟩)
def appV (tt : TT) (t tx : Nat) (s x : V) (e : Env) (h : List Blk) (K : V → Env → List Blk → Prop) : Prop :=
  match tt t with
  | some { kind := .sl el, .. } => bif isSrc (tt tx) x then (match tt el with
    | some ie => bif Nat.ble 1 ie.size then (match s with
      | .nils => srcV h ie.size x fun ys is dp => ApW ys.length ie.bytes (K (.own h.length 0 ys.length) (dropE (h.length :: is) e) ((goneL is (dropK (h.length :: is) (h ++ [.gone]))).set h.length (.arr ie.size ys dp)))
      | .own b off len => match h[b]? with
        | some (.arr n xs dp) => bif Nat.beq n ie.size then OffW off len xs.length (srcV h n x fun ys is dp' => bif (dp == dp') && !is.any (Nat.beq b) then
            ApW (len + ys.length) ie.bytes (K (.own b 0 (len + ys.length)) (dropE (b :: is) e) ((goneL is (dropK (b :: is) h)).set b (.arr n (xs.take len ++ ys) dp))) else False) else False
        | _ => False
      | _ => False) else False
    | none => False) else False
  | _ => False

section
variable {P : Program} {w : World}
/-- append, both ways -/
theorem run_app_sl {t tx ty el : TypeId} {i : TypeInfo} {z : Value} {ex : TypeId} (ht : P.underlying t = some (.slice el)) (hx : P.underlying tx = some (.slice ex)) (hi : P.info? el = some i) (hz : i.zero = some z)
    {base : Option Addr} {sLen sCap : Nat} {x : Value} {k : Nat} {olds news : List Value} (hk : ∀ w', (Builtin.lenOf x).run P w' = .ok k w') (hnews : ∀ w', Ext w w' → (Builtin.firstCells i.size k x).run P w' = .ok news.toArray w') (hnl : news.length = k * i.size)
    (h1 : ∀ c ∈ news, c.oneCell' = true) (holds : ∀ w', Ext w w' → (Builtin.firstCells i.size sLen (.slice base sLen sCap)).run P w' = .ok olds.toArray w') (hol : olds.length = sLen * i.size)
    (hbase : base = none → sCap = 0) (hn : sLen + k ≤ maxLen) (hb : (sLen + k) * i.bytes ≤ 140737488355328)
    (hroom : sCap ≠ 0 → ∃ g arr t', base = some ⟨g, 0, none⟩ ∧ w.heap[g]? = some (.cells arr t' (0, 0)) ∧ sCap * i.size ≤ arr.size) (hle : sLen ≤ sCap) :
    (sCap < sLen + k ∧ ∃ cap, sLen + k ≤ cap ∧ cap ≤ maxLen ∧ ∃ rest : List Value, rest.length = (cap - (sLen + k)) * z.cells.size ∧
      (Builtin.append_ #[t, tx] ty #[.slice base sLen sCap, x]).run P w = .ok (.slice (some ⟨w.heap.size, 0, none⟩) (sLen + k) cap) (w.drew.alloc (.cells (olds ++ news ++ rest).toArray el))) ∨
    (sLen + k ≤ sCap ∧ sCap = 0 ∧ (Builtin.append_ #[t, tx] ty #[.slice base sLen sCap, x]).run P w = .ok (.slice base 0 0) w) ∨
    (sLen + k ≤ sCap ∧ sCap ≠ 0 ∧ ∃ g arr t', base = some ⟨g, 0, none⟩ ∧ w.heap[g]? = some (.cells arr t' (0, 0)) ∧ sCap * i.size ≤ arr.size ∧
      (Builtin.append_ #[t, tx] ty #[.slice base sLen sCap, x]).run P w = .ok (.slice base (sLen + k) sCap) (w.setRow g (arr.toList.take (sLen * i.size) ++ news ++ arr.toList.drop (sLen * i.size + news.length)).toArray)) := by
  rcases Nat.lt_or_ge sCap (sLen + k) with hg | hg
  · refine .inl ⟨hg, grownCap w (sLen + k) sCap el, grownCap_ge w _ _ el, grownCap_le_maxLen w _ _ el hn, (Builtin.zeroCells z.cells (grownCap w (sLen + k) sCap el - (sLen + k))).toList, by rw [Array.length_toList, size_zeroCells], ?_⟩
    have hn' : ¬ (sLen + k ≤ sCap) := by omega
    have h63' : ¬ (9223372036854775807 < ((sLen : Int) + (k : Int))) := by
      unfold maxLen at hn
      omega
    have h48' : ¬ (281474976710656 < Builtin.nextslicecap (sLen + k) sCap * i.bytes) := by
      have := growslice_fits hg hb
      omega
    have e1 := hnews w.drew (Ext.refl w).drew
    have e2 := holds w.drew (Ext.refl w).drew
    simp [Builtin.append_, run_underlying ht, run_underlying hx, sizeOf, typeInfo, zeroValue, hi, hz, hk, hn', h63', h48', Question.forced, e1, e2, newRow, grownCap]
    congr 2
    apply Array.ext'
    simp
  · by_cases hc : sCap = 0
    · refine .inr (.inl ⟨hg, hc, ?_⟩)
      have hs0 : sLen = 0 := by omega
      have hk0 : k = 0 := by omega
      subst hs0
      subst hk0
      subst hc
      have hn0 : news = [] := List.eq_nil_of_length_eq_zero (by simpa using hnl)
      subst hn0
      have e1 := hnews w (Ext.refl w)
      cases base with
      | none => simp [Builtin.append_, run_underlying ht, run_underlying hx, sizeOf, typeInfo, hi, hk, e1]
      | some ad => simp [Builtin.append_, run_underlying ht, run_underlying hx, sizeOf, typeInfo, hi, hk, e1, storeCells]
    · obtain ⟨g, arr, t', rfl, hgw, hfit⟩ := hroom hc
      refine .inr (.inr ⟨hg, hc, g, arr, t', rfl, hgw, hfit, ?_⟩)
      have e1 := hnews w (Ext.refl w)
      have hle2 : (sLen + k) * i.size ≤ arr.size := Nat.le_trans (Nat.mul_le_mul_right _ hg) hfit
      rw [Nat.add_mul] at hle2
      have hst := run_storeCells_at P g (sLen * i.size) t' news 0 arr w hgw (by omega) h1
      simp only [Nat.add_zero] at hst
      simp [Builtin.append_, run_underlying ht, run_underlying hx, sizeOf, typeInfo, hi, hk, hg, e1, addr_add_plain, hst]
/-- append, both ways -/
theorem run_app_st {t tx ty el : TypeId} {i : TypeInfo} {z : Value} (ht : P.underlying t = some (.slice el)) (hx : P.underlying tx = some .string) (hi : P.info? el = some i) (hz : i.zero = some z)
    {base : Option Addr} {sLen sCap : Nat} {x : Value} {k : Nat} {olds news : List Value} (hk : ∀ w', (Builtin.lenOf x).run P w' = .ok k w') (hnews : ∀ w', Ext w w' → (Builtin.firstCells i.size k x).run P w' = .ok news.toArray w') (hnl : news.length = k * i.size)
    (h1 : ∀ c ∈ news, c.oneCell' = true) (holds : ∀ w', Ext w w' → (Builtin.firstCells i.size sLen (.slice base sLen sCap)).run P w' = .ok olds.toArray w') (hol : olds.length = sLen * i.size)
    (hbase : base = none → sCap = 0) (hn : sLen + k ≤ maxLen) (hb : (sLen + k) * i.bytes ≤ 140737488355328)
    (hroom : sCap ≠ 0 → ∃ g arr t', base = some ⟨g, 0, none⟩ ∧ w.heap[g]? = some (.cells arr t' (0, 0)) ∧ sCap * i.size ≤ arr.size) (hle : sLen ≤ sCap) :
    (sCap < sLen + k ∧ ∃ cap, sLen + k ≤ cap ∧ cap ≤ maxLen ∧ ∃ rest : List Value, rest.length = (cap - (sLen + k)) * z.cells.size ∧
      (Builtin.append_ #[t, tx] ty #[.slice base sLen sCap, x]).run P w = .ok (.slice (some ⟨w.heap.size, 0, none⟩) (sLen + k) cap) (w.drew.alloc (.cells (olds ++ news ++ rest).toArray el))) ∨
    (sLen + k ≤ sCap ∧ sCap = 0 ∧ (Builtin.append_ #[t, tx] ty #[.slice base sLen sCap, x]).run P w = .ok (.slice base 0 0) w) ∨
    (sLen + k ≤ sCap ∧ sCap ≠ 0 ∧ ∃ g arr t', base = some ⟨g, 0, none⟩ ∧ w.heap[g]? = some (.cells arr t' (0, 0)) ∧ sCap * i.size ≤ arr.size ∧
      (Builtin.append_ #[t, tx] ty #[.slice base sLen sCap, x]).run P w = .ok (.slice base (sLen + k) sCap) (w.setRow g (arr.toList.take (sLen * i.size) ++ news ++ arr.toList.drop (sLen * i.size + news.length)).toArray)) := by
  rcases Nat.lt_or_ge sCap (sLen + k) with hg | hg
  · refine .inl ⟨hg, grownCap w (sLen + k) sCap el, grownCap_ge w _ _ el, grownCap_le_maxLen w _ _ el hn, (Builtin.zeroCells z.cells (grownCap w (sLen + k) sCap el - (sLen + k))).toList, by rw [Array.length_toList, size_zeroCells], ?_⟩
    have hn' : ¬ (sLen + k ≤ sCap) := by omega
    have h63' : ¬ (9223372036854775807 < ((sLen : Int) + (k : Int))) := by
      unfold maxLen at hn
      omega
    have h48' : ¬ (281474976710656 < Builtin.nextslicecap (sLen + k) sCap * i.bytes) := by
      have := growslice_fits hg hb
      omega
    have e1 := hnews w.drew (Ext.refl w).drew
    have e2 := holds w.drew (Ext.refl w).drew
    simp [Builtin.append_, run_underlying ht, run_underlying hx, sizeOf, typeInfo, zeroValue, hi, hz, hk, hn', h63', h48', Question.forced, e1, e2, newRow, grownCap]
    congr 2
    apply Array.ext'
    simp
  · by_cases hc : sCap = 0
    · refine .inr (.inl ⟨hg, hc, ?_⟩)
      have hs0 : sLen = 0 := by omega
      have hk0 : k = 0 := by omega
      subst hs0
      subst hk0
      subst hc
      have hn0 : news = [] := List.eq_nil_of_length_eq_zero (by simpa using hnl)
      subst hn0
      have e1 := hnews w (Ext.refl w)
      cases base with
      | none => simp [Builtin.append_, run_underlying ht, run_underlying hx, sizeOf, typeInfo, hi, hk, e1]
      | some ad => simp [Builtin.append_, run_underlying ht, run_underlying hx, sizeOf, typeInfo, hi, hk, e1, storeCells]
    · obtain ⟨g, arr, t', rfl, hgw, hfit⟩ := hroom hc
      refine .inr (.inr ⟨hg, hc, g, arr, t', rfl, hgw, hfit, ?_⟩)
      have e1 := hnews w (Ext.refl w)
      have hle2 : (sLen + k) * i.size ≤ arr.size := Nat.le_trans (Nat.mul_le_mul_right _ hg) hfit
      rw [Nat.add_mul] at hle2
      have hst := run_storeCells_at P g (sLen * i.size) t' news 0 arr w hgw (by omega) h1
      simp only [Nat.add_zero] at hst
      simp [Builtin.append_, run_underlying ht, run_underlying hx, sizeOf, typeInfo, hi, hk, hg, e1, addr_add_plain, hst]
/-- append, both ways -/
theorem run_app {t tx ty el : TypeId} {i : TypeInfo} {z : Value} (ht : P.underlying t = some (.slice el)) (hx : (∃ ex, P.underlying tx = some (.slice ex)) ∨ P.underlying tx = some .string) (hi : P.info? el = some i) (hz : i.zero = some z)
    {base : Option Addr} {sLen sCap : Nat} {x : Value} {k : Nat} {olds news : List Value} (hk : ∀ w', (Builtin.lenOf x).run P w' = .ok k w') (hnews : ∀ w', Ext w w' → (Builtin.firstCells i.size k x).run P w' = .ok news.toArray w') (hnl : news.length = k * i.size)
    (h1 : ∀ c ∈ news, c.oneCell' = true) (holds : ∀ w', Ext w w' → (Builtin.firstCells i.size sLen (.slice base sLen sCap)).run P w' = .ok olds.toArray w') (hol : olds.length = sLen * i.size)
    (hbase : base = none → sCap = 0) (hn : sLen + k ≤ maxLen) (hb : (sLen + k) * i.bytes ≤ 140737488355328)
    (hroom : sCap ≠ 0 → ∃ g arr t', base = some ⟨g, 0, none⟩ ∧ w.heap[g]? = some (.cells arr t' (0, 0)) ∧ sCap * i.size ≤ arr.size) (hle : sLen ≤ sCap) :
    (sCap < sLen + k ∧ ∃ cap, sLen + k ≤ cap ∧ cap ≤ maxLen ∧ ∃ rest : List Value, rest.length = (cap - (sLen + k)) * z.cells.size ∧
      (Builtin.append_ #[t, tx] ty #[.slice base sLen sCap, x]).run P w = .ok (.slice (some ⟨w.heap.size, 0, none⟩) (sLen + k) cap) (w.drew.alloc (.cells (olds ++ news ++ rest).toArray el))) ∨
    (sLen + k ≤ sCap ∧ sCap = 0 ∧ (Builtin.append_ #[t, tx] ty #[.slice base sLen sCap, x]).run P w = .ok (.slice base 0 0) w) ∨
    (sLen + k ≤ sCap ∧ sCap ≠ 0 ∧ ∃ g arr t', base = some ⟨g, 0, none⟩ ∧ w.heap[g]? = some (.cells arr t' (0, 0)) ∧ sCap * i.size ≤ arr.size ∧
      (Builtin.append_ #[t, tx] ty #[.slice base sLen sCap, x]).run P w = .ok (.slice base (sLen + k) sCap) (w.setRow g (arr.toList.take (sLen * i.size) ++ news ++ arr.toList.drop (sLen * i.size + news.length)).toArray)) := by
  rcases hx with ⟨ex, hx⟩ | hx
  · exact run_app_sl ht hx hi hz hk hnews hnl h1 holds hol hbase hn hb hroom hle
  · exact run_app_st ht hx hi hz hk hnews hnl h1 holds hol hbase hn hb hroom hle
end

section
variable {P : Program} {tt : TT} {B : World} {X : List Nat} {N : Nat} {M : MM} {e : Env} {h : List Blk} {a : Act} {w : World}
theorem run_first0 {P : Program} {w : World} {n : Nat} (a : Option Addr) (l c : Nat) : (Builtin.firstCells n 0 (.slice a l c)).run P w = .ok #[] w := by
  cases a with
  | none => rfl
  | some ad => simp [Builtin.firstCells, loadCells, loadCellsFrom]
theorem run_lenOf {P : Program} {w : World} (a : Option Addr) (l c : Nat) : (Builtin.lenOf (.slice a l c)).run P w = .ok l w := rfl
theorem src_sound (hI : MInv B.heap.size w M h) {n : Nat} {x : V} {cx : Value} (hx : rep w M h x cx) {K : List D → List Nat → Bool → Prop} (H : srcV h n x K) :
    ∃ ys is dp F, ∃ news : List Value, K ys is dp ∧ (∀ w', (Builtin.lenOf cx).run P w' = .ok ys.length w') ∧ (∀ w', Ext w w' → (Builtin.firstCells n ys.length cx).run P w' = .ok news.toArray w') ∧ news.length = ys.length * n ∧ (∀ c ∈ news, c.oneCell' = true) ∧
      (if dp = true then ownDe w news.toArray n ys 0 F else F = [] ∧ extDe M.O w news.toArray n ys 0) ∧ F.Nodup ∧ (∀ z ∈ F, ∃ i ∈ is, ∃ m, M[i]? = some m ∧ z ∈ mO m) ∧ (∀ i ∈ is, ∃ k, h[i]? = some k ∧ k.live = true) := by
  unfold srcV at H
  split at H
  · cases rep_nils.1 hx
    exact ⟨[], [], true, [], [], H, fun w' => rfl, fun w' _ => rfl, by simp, by simp, rfl, by simp, by simp, by simp⟩
  · rename_i ys
    obtain ⟨aa, cap, m, rfl, h1, h2, h3, h4⟩ := rep_lst.1 hx
    cases ys with
    | nil =>
      obtain ⟨⟨hf, H⟩ | ⟨hf, H⟩⟩ := H
      · exact ⟨[], [], true, [], [], H, fun w' => rfl, fun w' _ => run_first0 _ _ _, by simp, by simp, rfl, by simp, by simp, by simp⟩
      · exact ⟨[], [], false, [], [], H, fun w' => rfl, fun w' _ => run_first0 _ _ _, by simp, by simp, by rw [if_neg (by simp)]; exact ⟨rfl, trivial⟩, by simp, by simp, by simp⟩
    | cons y ys =>
      have h4' := h4
      obtain ⟨⟨b, o, ces, rfl, g1, g2, g3, g4, g5⟩, _⟩ := h4'
      have hm : m = n := by
        rw [← g4]
        obtain ⟨⟨hf, _⟩ | ⟨hf, _⟩⟩ := H
        · exact (hf y (by simp)).2
        · exact hf y (by simp)
      subst hm
      obtain ⟨news, k1, k2, k3, k4⟩ := repDe_row (y :: ys) 0 h4
      have hrd : ∀ w', Ext w w' → (Builtin.firstCells m (y :: ys).length (.slice (some ⟨b, o, none⟩) (y :: ys).length cap)).run P w' = .ok news.toArray w' := fun w' hb => by
        refine run_firstCells_some w' m _ _ _ _ news k1 fun j v hj => ?_
        rw [addr_add_plain]
        have := k2 j v hj
        rw [Nat.zero_mul, Nat.add_zero] at this
        exact hb.cellSome this
      obtain ⟨⟨hf, H⟩ | ⟨hf, H⟩⟩ := H
      · refine ⟨y :: ys, [], true, [], news, H, fun w' => rfl, hrd, k1, k3, ?_, by simp, by simp, by simp⟩
        rw [if_pos rfl]
        exact ext_own _ 0 (fun z hz => (hf z hz).1) k4
      · refine ⟨y :: ys, [], false, [], news, H, fun w' => rfl, hrd, k1, k3, ?_, by simp, by simp, by simp⟩
        rw [if_neg (by simp)]
        exact ⟨rfl, k4⟩
  · rename_i str
    cases hq : Nat.beq n 1 with
    | false => rw [hq] at H; exact H.elim
    | true =>
      rw [hq] at H
      simp only [cond_true] at H
      have := Nat.eq_of_beq_eq_true hq
      subst this
      obtain ⟨rfl, hs⟩ := rep_str.1 hx
      have hsl : (str.data.toList.map bD).length = str.size := by rw [List.length_map, Array.length_toList]; rfl
      have hown : ∀ l : List UInt8, ownDs w (l.map bD) [] (l.map fun c => Value.int .u8 (c.toNat : Int)) := by
        intro l
        induction l with
        | nil => exact ⟨rfl, rfl⟩
        | cons c l ih => exact ⟨[], [], [_], _, rfl, rfl, ⟨rfl, rfl, by have := c.toNat_lt; simp [inR, IntKind.min, IntKind.max, IntKind.bits, IntKind.signed]; omega⟩, ih⟩
      refine ⟨_, [], true, [], Lib.strCells str, H, fun w' => by rw [hsl]; rfl, fun w' _ => by rw [hsl]; exact Lib.run_firstCells_string w' 1 str, by rw [Lib.strCells_length, hsl, Nat.mul_one], fun c hc => ?_, ?_, by simp, by simp, by simp⟩
      · obtain ⟨b, _, rfl⟩ := List.mem_map.1 hc
        rfl
      · rw [if_pos rfl]
        have := (ownDs_De (n := 1) (str.data.toList.map bD) 0 [] [] (Lib.strCells str) (by simp) (by intro y hy; obtain ⟨c, _, rfl⟩ := List.mem_map.1 hy; rfl) (hown _)).1
        simpa using this
  · rename_i c off len
    split at H
    · rename_i n' ys dp hc
      cases hq : Nat.beq n' n with
      | false => rw [hq] at H; exact H.elim
      | true =>
        rw [hq] at H
        simp only [cond_true] at H
        have := Nat.eq_of_beq_eq_true hq
        subst this
        obtain ⟨⟨rfl, rfl, H⟩⟩ := H
        obtain ⟨aa, cap, rfl, h1, h2, h3, h4⟩ := rep_own.1 hx
        have hlive : ∀ i ∈ [c], ∃ k, h[i]? = some k ∧ k.live = true := by
          intro i hi
          have : i = c := by simpa using hi
          subst this
          exact ⟨_, hc, rfl⟩
        rcases h4 with h4 | ⟨g, F, arr, t', m1, rfl, m3, m4⟩
        · have : ys = [] := List.eq_nil_of_length_eq_zero (by omega)
          subst this
          exact ⟨[], [c], dp, [], [], H, fun w' => rfl, fun w' _ => run_first0 _ _ _, by simp, by simp, by cases dp <;> simp [ownDe, extDe], by simp, by simp, hlive⟩
        · have hn : nOf h c = n' := by simp [nOf, hc]
          rw [hn] at m4
          have hbr := hI.blk c _ _ hc m1
          obtain ⟨arr', t'', q1, q2, q3⟩ := hbr
          rw [m3] at q1
          cases q1
          have hat : ∀ j, j < ys.length * n' → (arr.toList.take (ys.length * n'))[j]? = arr[j]? := fun j hj => by
            rw [List.getElem?_take, if_pos hj, Array.getElem?_toList]
          have hnl : (arr.toList.take (ys.length * n')).length = ys.length * n' := by simp; omega
          have hel : ∀ k, k < ys.length → ∀ j, j < n' → (arr.toList.take (ys.length * n')).toArray[(0 + k) * n' + j]? = arr[(0 + k) * n' + j]? := fun k hk j hj => by
            rw [List.getElem?_toArray, hat]
            have := Nat.mul_le_mul_right n' (Nat.succ_le_of_lt hk)
            rw [Nat.succ_mul] at this
            rw [Nat.zero_add]; omega
          have hone : ∀ (xs : List D) (i : Nat), extDe [] w arr n' xs i → ∀ j, i * n' ≤ j → j < (i + xs.length) * n' → ∀ v, arr[j]? = some v → v.oneCell' = true := by
            intro xs
            induction xs with
            | nil => intro i _ j h1 h2; simp at h2; omega
            | cons x xs ih =>
              intro i ⟨⟨ces, e1, e2, e3⟩, e4⟩ j j1 j2 v hv
              by_cases hlt : j < (i + 1) * n'
              · have hl := repD_len x ces e3
                have hjl : j - i * n' < ces.length := by rw [hl, e1]; rw [Nat.succ_mul] at hlt; omega
                have := e2 (j - i * n') ces[j - i * n'] (List.getElem?_eq_getElem hjl)
                rw [show i * n' + (j - i * n') = j by omega, hv] at this
                cases this
                exact repD_one x ces e3 _ (List.getElem_mem hjl)
              · refine ih (i + 1) e4 j (by omega) ?_ v hv
                rw [show i + 1 + xs.length = i + (x :: xs).length by simp; omega]; exact j2
          have hext0 : extDe [] w arr n' ys 0 := by
            cases dp with
            | true => rw [if_pos rfl] at q3; exact ownDe_ext m3 q3
            | false =>
              rw [if_neg (by simp)] at q3
              exact extDe_mv (w' := w) (fun b _ _ => ⟨by simp, rfl⟩) ys 0 q3.2
          refine ⟨ys, [c], dp, F, arr.toList.take (ys.length * n'), H, fun w' => rfl, fun w' hb => ?_, hnl, fun v hv => ?_, ?_, ?_, fun z hz => ⟨c, by simp, _, m1, by simp [mO, hz]⟩, hlive⟩
          · refine run_firstCells_some w' n' _ _ _ _ _ hnl fun j v hj => ?_
            rw [addr_add_plain, Nat.zero_mul, Nat.zero_add]
            have hjl : j < ys.length * n' := by rw [← hnl]; exact (List.getElem?_eq_some_iff.1 hj).1
            rw [hat j hjl] at hj
            exact hb.cellSome (by simp [World.cell?, m3, hj])
          · obtain ⟨j, hj⟩ := List.getElem?_of_mem hv
            have hjl : j < ys.length * n' := by rw [← hnl]; exact (List.getElem?_eq_some_iff.1 hj).1
            rw [hat j hjl] at hj
            exact hone ys 0 hext0 j (by omega) (by rw [Nat.zero_add]; exact hjl) v hj
          · cases dp with
            | true => rw [if_pos rfl] at q3 ⊢; exact ownDe_at ys 0 0 F hel q3
            | false => rw [if_neg (by simp)] at q3 ⊢; exact ⟨q3.1, extDe_at ys 0 0 hel q3.2⟩
          · have := mO_nodup' hI m1
            exact (List.nodup_cons.1 this).2
    · exact H.elim
  · exact H.elim
theorem own_row {arr arr' : Array Value} {n : Nat} {xs ys : List D} {len : Nat} {F Fy : List Nat} {news : Array Value} (hlen : len ≤ xs.length) (h1 : ownDe w arr n xs 0 F) (h2 : ownDe w news n ys 0 Fy)
    (g1 : ∀ j, j < len * n → arr'[j]? = arr[j]?) (g2 : ∀ j, j < ys.length * n → arr'[len * n + j]? = news[j]?) : ∃ F1 F2, F = F1 ++ F2 ∧ ownDe w arr' n (xs.take len ++ ys) 0 (F1 ++ Fy) := by
  rw [← List.take_append_drop len xs] at h1
  obtain ⟨F1, F2, rfl, k1, k2⟩ := (ownDe_app _ _ _ _).1 h1
  have hl : (xs.take len).length = len := by simp; omega
  refine ⟨F1, F2, rfl, (ownDe_app _ _ _ _).2 ⟨F1, Fy, rfl, ownDe_at _ 0 0 F1 (fun k hk j hj => ?_) k1, ownDe_at ys 0 _ Fy (fun k hk j hj => ?_) h2⟩⟩
  · rw [hl] at hk
    have := Nat.mul_le_mul_right n (Nat.succ_le_of_lt hk)
    rw [Nat.succ_mul] at this
    rw [Nat.zero_add]
    exact g1 _ (by omega)
  · have := Nat.mul_le_mul_right n (Nat.succ_le_of_lt hk)
    rw [Nat.succ_mul] at this
    rw [hl, Nat.zero_add, Nat.zero_add, Nat.add_mul, Nat.add_assoc]
    exact g2 _ (by omega)
theorem ext_row2 {O : List Nat} {arr arr' : Array Value} {n : Nat} {xs ys : List D} {len : Nat} {news : Array Value} (hlen : len ≤ xs.length) (h1 : extDe O w arr n xs 0) (h2 : extDe O w news n ys 0)
    (g1 : ∀ j, j < len * n → arr'[j]? = arr[j]?) (g2 : ∀ j, j < ys.length * n → arr'[len * n + j]? = news[j]?) : extDe O w arr' n (xs.take len ++ ys) 0 := by
  rw [← List.take_append_drop len xs] at h1
  obtain ⟨k1, k2⟩ := (extDe_app _ _ _).1 h1
  have hl : (xs.take len).length = len := by simp; omega
  refine (extDe_app _ _ _).2 ⟨extDe_at _ 0 0 (fun k hk j hj => ?_) k1, extDe_at ys 0 _ (fun k hk j hj => ?_) h2⟩
  · rw [hl] at hk
    have := Nat.mul_le_mul_right n (Nat.succ_le_of_lt hk)
    rw [Nat.succ_mul] at this
    rw [Nat.zero_add]
    exact g1 _ (by omega)
  · have := Nat.mul_le_mul_right n (Nat.succ_le_of_lt hk)
    rw [Nat.succ_mul] at this
    rw [hl, Nat.zero_add, Nat.zero_add, Nat.add_mul, Nat.add_assoc]
    exact g2 _ (by omega)

/-- block b, that holds xs, is given a new row: the first 'len' of xs, then ys -/
theorem app_core (R : Rep B X N M e h a w) {b : Nat} (hb0 : b ≠ 0) {n : Nat} {xs ys : List D} {dp : Bool} {k0 : Blk} (hk0 : h[b]? = some k0) (hkb : k0 = .arr n xs dp ∨ (k0 = .gone ∧ M[b]? = some none ∧ xs = [])) (hns : 1 ≤ n)
    {is : List Nat} (hbi : b ∉ is) {len : Nat} (hlen : len ≤ xs.length) {base : Option Addr} {sCap : Nat}
    (ho : ownR w M (if k0.live then h else h.set b (.arr n xs dp)) b 0 len (.slice base len sCap)) {Fy : List Nat} {news : List Value} (hnl : news.length = ys.length * n)
    (hel : if dp = true then ownDe w news.toArray n ys 0 Fy else Fy = [] ∧ extDe M.O w news.toArray n ys 0) (hFy : Fy.Nodup) (hFm : ∀ z ∈ Fy, ∃ i ∈ is, ∃ m, M[i]? = some m ∧ z ∈ mO m) (hisl : ∀ i ∈ is, ∃ k, h[i]? = some k ∧ k.live = true)
    {el : TypeId} {zs : Nat} {cv : Value} {w' : World} (hmax : len + ys.length ≤ maxLen) (hzs : zs = n)
    (hrun : (∃ cap, len + ys.length ≤ cap ∧ cap ≤ maxLen ∧ sCap < len + ys.length ∧ ∃ rest olds : List Value, rest.length = (cap - (len + ys.length)) * zs ∧ olds.length = len * n ∧ (∀ j, j < len * n → ∀ g F arr t, M[b]? = some (some (g, F)) → w.heap[g]? = some (.cells arr t (0, 0)) → olds[j]? = arr[j]?) ∧
        cv = .slice (some ⟨w.heap.size, 0, none⟩) (len + ys.length) cap ∧ w' = w.drew.alloc (.cells (olds ++ news ++ rest).toArray el)) ∨
      (sCap = 0 ∧ len + ys.length = 0 ∧ cv = .slice base 0 0 ∧ w' = w) ∨
      (len + ys.length ≤ sCap ∧ sCap ≠ 0 ∧ ∃ g arr t', base = some ⟨g, 0, none⟩ ∧ w.heap[g]? = some (.cells arr t' (0, 0)) ∧ sCap * n ≤ arr.size ∧ cv = .slice base (len + ys.length) sCap ∧
        w' = w.setRow g (arr.toList.take (len * n) ++ news ++ arr.toList.drop (len * n + news.length)).toArray)) :
    ∃ M', Rep B X N M' (dropE (b :: is) e) ((goneL is (dropK (b :: is) h)).set b (.arr n (xs.take len ++ ys) dp)) a w' ∧ rep w' M' ((goneL is (dropK (b :: is) h)).set b (.arr n (xs.take len ++ ys) dp)) (.own b 0 (len + ys.length)) cv := by
  have hbl : b < h.length := (List.getElem?_eq_some_iff.1 hk0).1
  obtain ⟨m0, hM⟩ := at_lt (xs := M) (k := b) (by rw [R.inv.len]; exact hbl)
  have hl0 : k0.live = true ∨ m0 = none := by
    rcases hkb with rfl | ⟨rfl, q, _⟩
    · exact .inl rfl
    · rw [hM] at q; cases q; exact .inr rfl
  have hisn : ∀ i ∈ is, i ≠ 0 := fun i hi e0 => by
    obtain ⟨k, hk, hl⟩ := hisl i hi
    subst e0
    rw [R.fh] at hk
    cases hk
    cases hl
  have hislv : ∀ i ∈ is, ∀ k, h[i]? = some k → k.live = true := fun i hi k hk => by
    obtain ⟨k1, hk1, hl⟩ := hisl i hi
    rw [hk1] at hk
    cases hk
    exact hl
  have hbr := R.inv.blk b k0 m0 hk0 hM
  have hnof : nOf ((goneL is (dropK (b :: is) h)).set b (.arr n (xs.take len ++ ys) dp)) b = n := by
    unfold nOf
    rw [List.getElem?_set_self (by rw [goneL_len, dropK_len]; exact hbl)]
  have hnof0 : nOf (if k0.live then h else h.set b (.arr n xs dp)) b = n := by
    rcases hkb with rfl | ⟨rfl, q, _⟩
    · rw [if_pos (show (Blk.arr n xs dp).live = true from rfl)]; simp [nOf, hk0]
    · rw [if_neg (by simp [Blk.live])]
      unfold nOf
      rw [List.getElem?_set_self hbl]
  have htl : (xs.take len ++ ys).length = len + ys.length := by simp; omega
  -- what the old row held
  have hold : ∀ g F, m0 = some (g, F) → ∃ arr t, w.heap[g]? = some (.cells arr t (0, 0)) ∧ xs.length * n ≤ arr.size ∧ (if dp = true then ownDe w arr n xs 0 F else F = [] ∧ extDe M.O w arr n xs 0) := fun g F hm => by
    subst hm
    rcases hkb with rfl | ⟨rfl, q, _⟩
    · exact hbr
    · rw [hM] at q; cases q
  have hnone : m0 = none → xs = [] := fun hm => by
    subst hm
    rcases hkb with rfl | ⟨rfl, q, hx⟩
    · exact hbr
    · exact hx
  have finish : ∀ (m' : Option (Nat × List Nat)) (hx : Ext B w') (hnd : (mO m').Nodup) (hL : ∀ x ∈ mO m', x ∈ mO m0 ∨ (∃ i ∈ is, ∃ m, M[i]? = some m ∧ x ∈ mO m) ∨ w.heap.size ≤ x) (hLhi : ∀ x ∈ mO m', x < w'.heap.size) (hws : w.heap.size ≤ w'.heap.size)
      (hch : ∀ x, x < w.heap.size → x ∉ mO m0 → w'.heap[x]? = w.heap[x]?)
      (hB : ∀ (M' : MM) (h' : List Blk), (∀ x, x ∉ M.O → x < w.heap.size → x ∉ MM.O M' ∧ w'.heap[x]? = w.heap[x]?) → BRep w' M' h' (.arr n (xs.take len ++ ys) dp) m')
      (hv : ∀ (M' : MM) (h' : List Blk), M'[b]? = some m' → nOf h' b = n → ownR w' M' h' b 0 (len + ys.length) cv),
      ∃ M', Rep B X N M' (dropE (b :: is) e) ((goneL is (dropK (b :: is) h)).set b (.arr n (xs.take len ++ ys) dp)) a w' ∧ rep w' M' ((goneL is (dropK (b :: is) h)).set b (.arr n (xs.take len ++ ys) dp)) (.own b 0 (len + ys.length)) cv := by
    intro m' hx hnd hL hLhi hws hch hB hv
    obtain ⟨M', R', hM', _⟩ := R.reset hx hM hb0 hk0 hl0 is (b :: is) (fun hi => hisn 0 hi rfl) hbi (fun i hi => by simp [hi]) hislv hnd hL hLhi hws hch (k' := .arr n (xs.take len ++ ys) dp) rfl (fun q => absurd (by simp) q) hB
    exact ⟨M', R', rep_own.2 (hv _ _ hM' hnof)⟩
  obtain ⟨aa, cap0, ecv, o1, o2, o3, o4⟩ := ho
  cases ecv
  rcases hrun with ⟨cap, r1, r2, r3, rest, olds, r4, r5, r6, rfl, rfl⟩ | ⟨rfl, r1, rfl, rfl⟩ | ⟨r1, r2, g, arr, t', rfl, r4, r5, rfl, rfl⟩
  · -- a new row
    have hx : Ext w (w.drew.alloc (.cells (olds ++ news ++ rest).toArray el)) := ((Ext.refl w).drew).alloc _
    have hnew : (w.drew.alloc (.cells (olds ++ news ++ rest).toArray el)).heap[w.heap.size]? = some (.cells (olds ++ news ++ rest).toArray el (0, 0)) := heap_new w.drew _
    have hsz : (olds ++ news ++ rest).toArray.size = cap * n := by
      simp only [List.size_toArray, List.length_append, r5, hnl, r4, hzs]
      rw [← Nat.add_mul, ← Nat.add_mul]
      congr 1
      omega
    have g1 : ∀ j, j < len * n → (olds ++ news ++ rest).toArray[j]? = olds[j]? := fun j hj => by
      rw [List.getElem?_toArray, List.append_assoc, List.getElem?_append_left (by omega)]
    have g2 : ∀ j, j < ys.length * n → (olds ++ news ++ rest).toArray[len * n + j]? = news.toArray[j]? := fun j hj => by
      rw [List.getElem?_toArray, List.append_assoc, List.getElem?_append_right (by omega), List.getElem?_append_left (by omega), List.getElem?_toArray]
      congr 1
      omega
    -- the elements
    have hels : ∃ F1, (∀ x ∈ F1, x ∈ mO m0) ∧ F1.Nodup ∧ (∀ x ∈ F1, ∀ g F, m0 = some (g, F) → x ≠ g) ∧ (if dp = true then ownDe w (olds ++ news ++ rest).toArray n (xs.take len ++ ys) 0 (F1 ++ Fy) else (F1 ++ Fy) = [] ∧ extDe M.O w (olds ++ news ++ rest).toArray n (xs.take len ++ ys) 0) := by
      cases hm0 : m0 with
      | none =>
        have hxs := hnone hm0
        subst hxs
        have hlen0 : len = 0 := by simpa using hlen
        subst hlen0
        refine ⟨[], by simp, by simp, by simp, ?_⟩
        simp only [List.take_nil, List.nil_append]
        have g2' : ∀ k, k < ys.length → ∀ j, j < n → (olds ++ news ++ rest).toArray[(0 + k) * n + j]? = news.toArray[(0 + k) * n + j]? := fun k hk j hj => by
          have := Nat.mul_le_mul_right n (Nat.succ_le_of_lt hk)
          rw [Nat.succ_mul] at this
          have := g2 ((0 + k) * n + j) (by rw [Nat.zero_add]; omega)
          rw [Nat.zero_mul, Nat.zero_add] at this
          exact this
        cases dp with
        | true => rw [if_pos rfl] at hel ⊢; exact ownDe_at ys 0 0 Fy g2' hel
        | false => rw [if_neg (by simp)] at hel ⊢; exact ⟨hel.1, extDe_at ys 0 0 g2' hel.2⟩
      | some p =>
        obtain ⟨g, F⟩ := p
        obtain ⟨arr, t, q1, q2, q3⟩ := hold g F hm0
        have g1' : ∀ j, j < len * n → (olds ++ news ++ rest).toArray[j]? = arr[j]? := fun j hj => by
          rw [g1 j hj]
          exact r6 j hj g F arr t (by rw [hM, hm0]) q1
        have hnd := mO_nodup' R.inv (by rw [hM, hm0] : M[b]? = some (some (g, F)))
        cases dp with
        | true =>
          rw [if_pos rfl] at hel q3
          obtain ⟨F1, F2, rfl, k1⟩ := own_row hlen q3 hel g1' g2
          refine ⟨F1, fun x hx => by simp [mO, hx], (List.nodup_append.1 (List.nodup_cons.1 hnd).2).1, fun x hx g0 F0 e0 => ?_, by rw [if_pos rfl]; exact k1⟩
          cases e0
          rintro rfl
          exact (List.nodup_cons.1 hnd).1 (by simp [hx])
        | false =>
          rw [if_neg (by simp)] at hel q3
          refine ⟨[], by simp, by simp, by simp, ?_⟩
          rw [if_neg (by simp)]
          exact ⟨by simp [hel.1], ext_row2 hlen q3.2 hel.2 g1' g2⟩
    obtain ⟨F1, f1, f2, f3, f4⟩ := hels
    have hFn : (F1 ++ Fy).Nodup := List.nodup_append.2 ⟨f2, hFy, fun x hx y hy e0 => by
      subst e0
      obtain ⟨i, hi, m, hm, hxm⟩ := hFm x hy
      have := O_block_inj R.inv hM hm (f1 x hx) hxm
      subst this
      exact hbi hi⟩
    have hFb : ∀ x ∈ F1 ++ Fy, x ∈ M.O := fun x hx => by
      rcases List.mem_append.1 hx with hx | hx
      · exact mem_O hM (f1 x hx)
      · obtain ⟨i, hi, m, hm, hxm⟩ := hFm x hx
        exact mem_O hm hxm
    refine finish (some (w.heap.size, F1 ++ Fy)) (R.ext.trans hx) ?_ ?_ ?_ (by simp) (fun x hlt _ => hx.below.block x hlt) ?_ ?_
    · refine List.nodup_cons.2 ⟨fun hm => ?_, hFn⟩
      have := R.inv.hi _ (hFb _ hm)
      omega
    · intro x hxm
      rcases List.mem_cons.1 hxm with rfl | hxm
      · exact .inr (.inr (Nat.le_refl _))
      · rcases List.mem_append.1 hxm with hxm | hxm
        · exact .inl (f1 x hxm)
        · exact .inr (.inl (hFm x hxm))
    · intro x hxm
      rcases List.mem_cons.1 hxm with rfl | hxm
      · simp
      · have := R.inv.hi x (hFb x hxm)
        simp; omega
    · intro M' h' hext
      refine ⟨_, _, hnew, by rw [htl, hsz]; exact Nat.mul_le_mul_right _ r1, ?_⟩
      cases dp with
      | true =>
        rw [if_pos rfl] at f4 ⊢
        exact ownDe_mv _ _ _ _ _ (fun x hxm => hx.below.block x (R.inv.hi x (hFb x hxm))) f4
      | false =>
        rw [if_neg (by simp)] at f4 ⊢
        exact ⟨f4.1, extDe_mv hext _ _ f4.2⟩
    · intro M' h' hM' hn'
      exact ⟨_, cap, rfl, r1, r2, (fun q => by cases q), .inr ⟨w.heap.size, _, _, _, hM', by rw [hn', Nat.zero_mul], hnew, by rw [hn', hsz, Nat.zero_add]; exact Nat.le_refl _⟩⟩
  · -- nothing at all
    have hy0 : ys = [] := List.eq_nil_of_length_eq_zero (by omega)
    subst hy0
    have hl0' : len = 0 := by omega
    subst hl0'
    refine finish none R.ext (by simp [mO]) (by simp [mO]) (by simp [mO]) (Nat.le_refl _) (fun _ _ _ => rfl) (fun M' h' _ => by simp [BRep]) (fun M' h' _ _ => ⟨_, 0, rfl, Nat.le_refl _, Nat.zero_le _, fun _ => rfl, .inl rfl⟩)
  · -- in place
    rcases o4 with o4 | ⟨g', F, arr', t, m1, m2, m3, m4⟩
    · exact absurd o4 r2
    have hgg : g' = g := by
      have := Option.some.inj m2
      exact (congrArg Addr.block this).symm
    subst hgg
    rw [r4] at m3
    cases m3
    rw [hM] at m1
    have hm0 : m0 = some (g', F) := Option.some.inj m1
    obtain ⟨arr1, t1, q1, q2, q3⟩ := hold g' F hm0
    rw [r4] at q1
    cases q1
    have hnd := mO_nodup' R.inv (by rw [hM, hm0] : M[b]? = some (some (g', F)))
    have hle2 : (len + ys.length) * n ≤ arr.size := Nat.le_trans (Nat.mul_le_mul_right _ r1) r5
    rw [Nat.add_mul] at hle2
    have htk : (arr.toList.take (len * n)).length = len * n := by simp; omega
    have hsz : (arr.toList.take (len * n) ++ news ++ arr.toList.drop (len * n + news.length)).toArray.size = arr.size := by simp; omega
    have g1 : ∀ j, j < len * n → (arr.toList.take (len * n) ++ news ++ arr.toList.drop (len * n + news.length)).toArray[j]? = arr[j]? := fun j hj => by
      rw [List.getElem?_toArray, List.append_assoc, List.getElem?_append_left (by omega), List.getElem?_take, if_pos hj, Array.getElem?_toList]
    have g2 : ∀ j, j < ys.length * n → (arr.toList.take (len * n) ++ news ++ arr.toList.drop (len * n + news.length)).toArray[len * n + j]? = news.toArray[j]? := fun j hj => by
      rw [List.getElem?_toArray, List.append_assoc, List.getElem?_append_right (by omega), List.getElem?_append_left (by omega), List.getElem?_toArray]
      congr 1
      omega
    have hlo : B.heap.size ≤ g' := by
      rcases hkb with rfl | ⟨rfl, q, _⟩
      · exact R.inv.lo b _ m0 hk0 hM rfl g' (by rw [hm0]; simp [mO])
      · rw [hM, hm0] at q; cases q
    have hels : ∃ F1, (∀ x ∈ F1, x ∈ F) ∧ F1.Nodup ∧ (if dp = true then ownDe w (arr.toList.take (len * n) ++ news ++ arr.toList.drop (len * n + news.length)).toArray n (xs.take len ++ ys) 0 (F1 ++ Fy) else (F1 ++ Fy) = [] ∧ extDe M.O w (arr.toList.take (len * n) ++ news ++ arr.toList.drop (len * n + news.length)).toArray n (xs.take len ++ ys) 0) := by
      cases dp with
      | true =>
        rw [if_pos rfl] at hel q3
        obtain ⟨F1, F2, rfl, k1⟩ := own_row hlen q3 hel g1 g2
        exact ⟨F1, fun x hx => by simp [hx], (List.nodup_append.1 (List.nodup_cons.1 hnd).2).1, by rw [if_pos rfl]; exact k1⟩
      | false =>
        rw [if_neg (by simp)] at hel q3
        exact ⟨[], by simp, by simp, by rw [if_neg (by simp)]; exact ⟨by simp [hel.1], ext_row2 hlen q3.2 hel.2 g1 g2⟩⟩
    obtain ⟨F1, f1, f2, f4⟩ := hels
    have hgn : g' ∉ F := (List.nodup_cons.1 hnd).1
    have hFyg : ∀ x ∈ Fy, x ≠ g' ∧ x ∉ F := fun x hx => by
      obtain ⟨i, hi, m, hm, hxm⟩ := hFm x hx
      refine ⟨fun e0 => ?_, fun hF => ?_⟩
      · subst e0
        have := O_block_inj R.inv hM hm (by rw [hm0]; simp [mO]) hxm
        subst this
        exact hbi hi
      · have := O_block_inj R.inv hM hm (by rw [hm0]; simp [mO, hF]) hxm
        subst this
        exact hbi hi
    have hFb : ∀ x ∈ F1 ++ Fy, x ∈ M.O ∧ x ≠ g' := fun x hx => by
      rcases List.mem_append.1 hx with hx | hx
      · exact ⟨mem_O hM (by rw [hm0]; simp [mO, f1 x hx]), fun e0 => hgn (by rw [← e0]; exact f1 x hx)⟩
      · obtain ⟨i, hi, m, hm, hxm⟩ := hFm x hx
        exact ⟨mem_O hm hxm, (hFyg x hx).1⟩
    refine finish (some (g', F1 ++ Fy)) (ext_setRow R.ext hlo _) ?_ ?_ ?_ (by rw [setRow_size]; exact Nat.le_refl _) (fun x hlt hx => setRow_other (fun e0 => hx (by rw [hm0, e0]; simp [mO])) _) ?_ ?_
    · refine List.nodup_cons.2 ⟨fun hm => (hFb _ hm).2 rfl, List.nodup_append.2 ⟨f2, hFy, fun x hx y hy e0 => ?_⟩⟩
      subst e0
      exact (hFyg x hy).2 (f1 x hx)
    · intro x hxm
      rcases List.mem_cons.1 hxm with rfl | hxm
      · exact .inl (by rw [hm0]; simp [mO])
      · rcases List.mem_append.1 hxm with hxm | hxm
        · exact .inl (by rw [hm0]; simp [mO, f1 x hxm])
        · exact .inr (.inl (hFm x hxm))
    · intro x hxm
      rw [setRow_size]
      rcases List.mem_cons.1 hxm with rfl | hxm
      · exact lt_of_heap r4
      · exact R.inv.hi x (hFb x hxm).1
    · intro M' h' hext
      refine ⟨_, _, setRow_at r4 _, by rw [htl, hsz, Nat.add_mul]; exact hle2, ?_⟩
      cases dp with
      | true =>
        rw [if_pos rfl] at f4 ⊢
        exact ownDe_mv _ _ _ _ _ (fun x hxm => setRow_other (hFb x hxm).2 _) f4
      | false =>
        rw [if_neg (by simp)] at f4 ⊢
        exact ⟨f4.1, extDe_mv hext _ _ f4.2⟩
    · intro M' h' hM' hn'
      exact ⟨_, sCap, rfl, r1, o2, (fun q => by cases q), .inr ⟨g', _, _, _, hM', by rw [hn', Nat.zero_mul], setRow_at r4 _, by rw [hn', hsz, Nat.zero_add]; exact r5⟩⟩

theorem srcV_imp {h : List Blk} {n : Nat} {x : V} {K K' : List D → List Nat → Bool → Prop} (hK : ∀ ys is dp, K ys is dp → K' ys is dp) (H : srcV h n x K) : srcV h n x K' := by
  unfold srcV at H ⊢
  split at H
  · exact hK _ _ _ H
  · exact ⟨H.ex.imp (fun q => ⟨q.1, hK _ _ _ q.2⟩) (fun q => ⟨q.1, hK _ _ _ q.2⟩)⟩
  · cases hq : Nat.beq n 1 with
    | false => rw [hq] at H; exact H.elim
    | true => rw [hq] at H; exact hK _ _ _ H
  · rename_i c off len
    split at H
    · rename_i n' ys dp hc
      cases hq : Nat.beq n' n with
      | false => rw [hq] at H; exact H.elim
      | true =>
        rw [hq] at H
        exact ⟨H.ex.1, H.ex.2.1, hK _ _ _ H.ex.2.2⟩
    · exact H.elim
  · exact H.elim
theorem srcV_app {h : List Blk} {m : Blk} {n : Nat} {x : V} {K : List D → List Nat → Bool → Prop} (H : srcV h n x K) : srcV (h ++ [m]) n x K := by
  unfold srcV at H ⊢
  split at H
  · exact H
  · exact H
  · exact H
  · rename_i c off len
    split at H
    · rename_i hc
      rw [get_app_left hc]
      exact H
    · exact H.elim
  · exact H.elim
theorem app_sound (hT : TOk P tt) (R : Rep B X N M e h a w) {t tx ty : Nat} {s x : V} {cs cx : Value} (hs : rep w M h s cs) (hx : rep w M h x cx) {K : V → Env → List Blk → Prop} (H : appV tt t tx s x e h K) :
    ∃ v cv e' h' M' w', K v e' h' ∧ (Builtin.append_ #[t, tx] ty #[cs, cx]).run P w = .ok cv w' ∧ Rep B X N M' e' h' a w' ∧ rep w' M' h' v cv := by
  unfold appV at H
  split at H
  · rename_i el sz by' zr eq0 hti
    obtain ⟨fi, d, z, h1, h2, h3, h4, h5, h6, h7, h8, h9⟩ := (hT t _ hti).ex
    cases d <;> first
      | exact (h6 : False).elim
      | skip
    cases (h6 : _ = el)
    cases hsr : isSrc (tt tx) x with
    | false => rw [hsr] at H; exact H.elim
    | true =>
    rw [hsr] at H
    simp only [cond_true] at H
    have i5 := isSrc_spec hT hsr
    split at H
    · rename_i ie hie
      obtain ⟨fe, de, ze, e1, e2, e3, e4, e5, e6, e7, e8, e9⟩ := (hT _ _ hie).ex
      cases hq : Nat.ble 1 ie.size with
      | false => rw [hq] at H; exact H.elim
      | true =>
        rw [hq] at H
        simp only [cond_true] at H
        have hsz1 := Nat.le_of_ble_eq_true hq
        split at H
        · -- a slice that is nil
          cases rep_nils.1 hs
          have R1 := R.room
          have hx1 : rep w (M ++ [none]) (h ++ [.gone]) x cx := rep_mv (push_mv R.inv.len (Ext.refl w) R.inv.hi (by simp [MM.O, mO])) _ _ (V.inS_all _) hx
          obtain ⟨ys, is, dp, F, news, ⟨⟨k1, k2, kK⟩⟩, l1, l2, l3, l4, l5, l6, l7, l8⟩ := src_sound (P := P) (B := B) R1.inv hx1 (srcV_app H)
          have hra := run_app (P := P) (w := w) (t := t) (tx := tx) (ty := ty) (base := none) (sLen := 0) (sCap := 0) (olds := []) h5 i5 e1 e4 l1 (by rw [e2]; exact l2) (by rw [e2]; exact l3) l4 (fun w' _ => run_first0 _ _ _) (by simp) (fun _ => rfl) (by rw [Nat.zero_add]; exact k1) (by rw [Nat.zero_add, e3]; exact k2) (fun q => absurd rfl q) (Nat.le_refl _)
          have hb0 : h.length ≠ 0 := by
            have := (List.getElem?_eq_some_iff.1 R.fh).1
            omega
          have hMl : (M ++ [none])[h.length]? = some none := by
            rw [← R.inv.len, List.getElem?_append_right (Nat.le_refl _)]; simp
          have hhl : (h ++ [Blk.gone])[h.length]? = some .gone := by rw [List.getElem?_append_right (Nat.le_refl _)]; simp
          have hbi : h.length ∉ is := fun hi => by
            obtain ⟨k, hk, hl⟩ := l8 _ hi
            rw [hhl] at hk
            cases hk
            cases hl
          have core := fun cv w' => app_core R1 (b := h.length) hb0 (n := ie.size) (xs := []) (ys := ys) (dp := dp) (k0 := .gone) hhl (.inr ⟨rfl, hMl, rfl⟩) hsz1 (is := is) hbi (len := 0) (Nat.le_refl _) (base := none) (sCap := 0)
            ⟨none, 0, rfl, Nat.le_refl _, Nat.zero_le _, fun _ => rfl, .inl rfl⟩ (Fy := F) (news := news) l3 l5 l6 l7 l8 (el := el) (zs := ze.cells.size) (cv := cv) (w' := w') (by rw [Nat.zero_add]; exact k1) e8
          rcases hra with ⟨q1, cap, q2, q3, rest, q4, q5⟩ | ⟨q1, q2, q3⟩ | ⟨q1, q2, _⟩
          · obtain ⟨M', R', hv⟩ := core _ _ (.inl ⟨cap, by omega, q3, by omega, rest, [], by rw [q4], by simp, by simp, rfl, rfl⟩)
            simp only [List.take_nil, List.nil_append, Nat.zero_add] at R' hv
            exact ⟨_, _, _, _, M', _, kK, by rw [q5, Nat.zero_add, List.nil_append], R', hv⟩
          · obtain ⟨M', R', hv⟩ := core _ _ (.inr (.inl ⟨rfl, by omega, rfl, rfl⟩))
            simp only [List.take_nil, List.nil_append, Nat.zero_add] at R' hv
            exact ⟨_, _, _, _, M', _, kK, q3, R', hv⟩
          · exact absurd rfl q2
        · -- a slice of our own
          rename_i b off len
          split at H
          · rename_i n xs dp hb
            cases hqn : Nat.beq n ie.size with
            | false => rw [hqn] at H; exact H.elim
            | true =>
              rw [hqn] at H
              simp only [cond_true] at H
              have := Nat.eq_of_beq_eq_true hqn
              subst this
              obtain ⟨⟨rfl, hlen, H⟩⟩ := H
              obtain ⟨ys, is, dp', F, news, kK, l1, l2, l3, l4, l5, l6, l7, l8⟩ := src_sound (P := P) (B := B) R.inv hx H
              cases hqd : ((dp == dp') && !is.any (Nat.beq b)) with
              | false => rw [hqd] at kK; exact kK.elim
              | true =>
                rw [hqd] at kK
                simp only [cond_true] at kK
                obtain ⟨⟨k1, k2, kK⟩⟩ := kK
                simp only [Bool.and_eq_true, beq_iff_eq, Bool.not_eq_true', List.any_eq_false] at hqd
                obtain ⟨rfl, hbi'⟩ := hqd
                have hbi : b ∉ is := fun hi => hbi' b hi (Nat.beq_refl b)
                have ho := rep_own.1 hs
                have ho' := ho
                obtain ⟨base, sCap, rfl, o1, o2, o3, o4⟩ := ho'
                have hn : nOf h b = ie.size := by simp [nOf, hb]
                have hb0 : b ≠ 0 := fun e0 => by
                  subst e0
                  rw [R.fh] at hb
                  cases hb
                -- what is there
                have ⟨olds, s1, s2, s3⟩ : ∃ olds : List Value, (∀ w', Ext w w' → (Builtin.firstCells ie.size len (.slice base len sCap)).run P w' = .ok olds.toArray w') ∧ olds.length = len * ie.size ∧
                    (∀ j, j < len * ie.size → ∀ g F arr t, M[b]? = some (some (g, F)) → w.heap[g]? = some (.cells arr t (0, 0)) → olds[j]? = arr[j]?) := by
                  rcases o4 with o4 | ⟨g, F', arr, t', m1, rfl, m3, m4⟩
                  · have : len = 0 := by omega
                    subst this
                    exact ⟨[], fun w' _ => run_first0 _ _ _, by simp, fun j hj => by simp at hj⟩
                  · rw [hn] at m4
                    have hle : len * ie.size ≤ arr.size := by
                      have := Nat.mul_le_mul_right ie.size o1
                      rw [Nat.zero_add] at m4
                      omega
                    refine ⟨arr.toList.take (len * ie.size), fun w' hb' => ?_, by simp; omega, fun j hj g1 F1 arr1 t1 hm1 hg1 => ?_⟩
                    · refine run_firstCells_some w' ie.size _ _ _ _ _ (by simp; omega) fun j v hj => ?_
                      rw [addr_add_plain, hn, Nat.zero_mul, Nat.zero_add]
                      have hjl : j < len * ie.size := by
                        have := (List.getElem?_eq_some_iff.1 hj).1
                        simp at this
                        omega
                      rw [List.getElem?_take, if_pos hjl, Array.getElem?_toList] at hj
                      exact hb'.cellSome (by simp [World.cell?, m3, hj])
                    · rw [m1] at hm1
                      cases hm1
                      rw [m3] at hg1
                      cases hg1
                      rw [List.getElem?_take, if_pos hj, Array.getElem?_toList]
                have hroom : sCap ≠ 0 → ∃ g arr t', base = some ⟨g, 0, none⟩ ∧ w.heap[g]? = some (.cells arr t' (0, 0)) ∧ sCap * fe.size ≤ arr.size := fun q => by
                  rcases o4 with o4 | ⟨g, F', arr, t', m1, m2, m3, m4⟩
                  · exact absurd o4 q
                  · rw [hn] at m4 m2
                    exact ⟨g, arr, t', by rw [m2, Nat.zero_mul], m3, by rw [e2]; rw [Nat.zero_add] at m4; exact m4⟩
                have hra := run_app (P := P) (w := w) (t := t) (tx := tx) (ty := ty) (base := base) (sLen := len) (sCap := sCap) (olds := olds) h5 i5 e1 e4 l1 (by rw [e2]; exact l2) (by rw [e2]; exact l3) l4 (by rw [e2]; exact s1) (by rw [e2]; exact s2) o3 k1 (by rw [e3]; exact k2) hroom o1
                have core := fun cv w' => app_core R (b := b) hb0 (n := ie.size) (xs := xs) (ys := ys) (dp := dp) hb (.inl rfl) hsz1 (is := is) hbi (len := len) hlen (base := base) (sCap := sCap)
                  (by rw [if_pos (show (Blk.arr ie.size xs dp).live = true from rfl)]; exact ho) (Fy := F) (news := news) l3 l5 l6 l7 l8 (el := el) (zs := ze.cells.size) (cv := cv) (w' := w') k1 e8
                rcases hra with ⟨q1, cap, q2, q3, rest, q4, q5⟩ | ⟨q1, q2, q3⟩ | ⟨q1, q2, g, arr, t', q3, q4, q5, q6⟩
                · obtain ⟨M', R', hv⟩ := core _ _ (.inl ⟨cap, q2, q3, q1, rest, olds, q4, s2, s3, rfl, rfl⟩)
                  exact ⟨_, _, _, _, M', _, kK, q5, R', hv⟩
                · obtain ⟨M', R', hv⟩ := core _ _ (.inr (.inl ⟨q2, by omega, rfl, rfl⟩))
                  exact ⟨_, _, _, _, M', _, kK, q3, R', hv⟩
                · rw [e2] at q5 q6
                  obtain ⟨M', R', hv⟩ := core _ _ (.inr (.inr ⟨q1, q2, g, arr, t', q3, q4, q5, rfl, rfl⟩))
                  exact ⟨_, _, _, _, M', _, kK, q6, R', hv⟩
          · exact H.elim
        · exact H.elim
    · exact H.elim
  · exact H.elim
end
end Go.Proofs.Ytdeafbgnbgihgaa

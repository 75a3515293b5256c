/- merged: several parts in one text. Leans on no more than they do. -/
import Derived.Test.YtdeafbgnbgihgaaVMMake
import Derived.Lib.AppendStr
import Derived.Lib.AppendZerosOnto
set_option linter.unusedSimpArgs false
set_option linter.unusedVariables false
namespace Go.Proofs.Ytdeafbgnbgihgaa
open Go.RowKit
def srcV (h : List Blk) (n : Nat) (x : V) (K : List D → List Nat → Bool → Prop) : Prop :=
  match x with
  | .nils => K [] [] true
  | .d (.lst ys) => FlW ys n (K ys [] true) (K ys [] false)
  | .d (.str s) => bif Nat.beq n 1 then K (s.data.toList.map bD) [] true else False
  | .own c off len => match h[c]? with
    | some (.arr n' ys dp) => bif Nat.beq n' n then TkW off len ys (K ys [c] dp) else False
    | _ => False
  | _ => False
def isSrc : Option TI → V → Bool
  | some { kind := .str, .. }, .d (.str _) => true
  | some { kind := .sl _, .. }, .d (.str _) => false
  | some { kind := .sl _, .. }, _ => true
  | _, _ => false
theorem isSrc_spec {P : Program} {tt : TT} (hT : TOk P tt) {tx : Nat} {x : V} (H : isSrc (tt tx) x = true) : (∃ ex, P.underlying tx = some (.slice ex)) ∨ P.underlying tx = some .string := by
  cases hi : tt tx with
  | none => rw [hi] at H; cases H
  | some i =>
    obtain ⟨f, d, z, h1, h2, h3, h4, h5, h6, _⟩ := (hT tx i hi).ex
    rw [hi] at H
    obtain ⟨k, sz, b, z0, eq⟩ := i
    cases k <;> first
      | (cases H; done)
      | (cases d <;> first
          | exact (h6 : False).elim
          | exact .inr h5
          | exact .inl ⟨_, h5⟩)
def appV (tt : TT) (t tx : Nat) (s x : V) (e : Env) (h : List Blk) (K : V → Env → List Blk → Prop) : Prop :=
  match tt t with
  | some { kind := .sl el, .. } => bif isSrc (tt tx) x then (match tt el with
    | some ie => bif Nat.ble 1 ie.size then (match s with
      | .nils => srcV h ie.size x fun ys is dp => ApW ys.length ie.bytes (K (.own h.length 0 ys.length) (dropE (h.length :: is) e) ((goneL is (dropK (h.length :: is) (h ++ [.gone]))).set h.length (.arr ie.size ys dp)))
      | .own b off len => match h[b]? with
        | some (.arr n xs dp) => bif Nat.beq n ie.size then OffW off len xs.length (srcV h n x fun ys is dp' => bif (dp == dp') && !is.any (Nat.beq b) then
            ApW (len + ys.length) ie.bytes (K (.own b 0 (len + ys.length)) (dropE (b :: is) e) ((goneL is (dropK (b :: is) h)).set b (.arr n (xs.take len ++ ys) dp))) else False) else False
        | _ => False
      | _ => False) else False
    | none => False) else False
  | _ => False
section
variable {P : Program} {w : World}
theorem run_app_sl {t tx ty el : TypeId} {i : TypeInfo} {z : Value} {ex : TypeId} (ht : P.underlying t = some (.slice el)) (hx : P.underlying tx = some (.slice ex)) (hi : P.info? el = some i) (hz : i.zero = some z)
    {base : Option Addr} {sLen sCap : Nat} {x : Value} {k : Nat} {olds news : List Value} (hk : ∀ w', (Builtin.lenOf x).run P w' = .ok k w') (hnews : ∀ w', Ext w w' → (Builtin.firstCells i.size k x).run P w' = .ok news.toArray w') (hnl : news.length = k * i.size)
    (h1 : ∀ c ∈ news, c.oneCell' = true) (holds : ∀ w', Ext w w' → (Builtin.firstCells i.size sLen (.slice base sLen sCap)).run P w' = .ok olds.toArray w') (hol : olds.length = sLen * i.size)
    (hbase : base = none → sCap = 0) (hn : sLen + k ≤ maxLen) (hb : (sLen + k) * i.bytes ≤ 140737488355328)
    (hroom : sCap ≠ 0 → ∃ g arr t', base = some ⟨g, 0, none⟩ ∧ w.heap[g]? = some (.cells arr t' (0, 0)) ∧ sCap * i.size ≤ arr.size) (hle : sLen ≤ sCap) :
    (sCap < sLen + k ∧ ∃ cap, sLen + k ≤ cap ∧ cap ≤ maxLen ∧ ∃ rest : List Value, rest.length = (cap - (sLen + k)) * z.cells.size ∧
      (Builtin.append_ #[t, tx] ty #[.slice base sLen sCap, x]).run P w = .ok (.slice (some ⟨w.heap.size, 0, none⟩) (sLen + k) cap) (w.drew.alloc (.cells (olds ++ news ++ rest).toArray el))) ∨
    (sLen + k ≤ sCap ∧ sCap = 0 ∧ (Builtin.append_ #[t, tx] ty #[.slice base sLen sCap, x]).run P w = .ok (.slice base 0 0) w) ∨
    (sLen + k ≤ sCap ∧ sCap ≠ 0 ∧ ∃ g arr t', base = some ⟨g, 0, none⟩ ∧ w.heap[g]? = some (.cells arr t' (0, 0)) ∧ sCap * i.size ≤ arr.size ∧
      (Builtin.append_ #[t, tx] ty #[.slice base sLen sCap, x]).run P w = .ok (.slice base (sLen + k) sCap) (w.setRow g (arr.toList.take (sLen * i.size) ++ news ++ arr.toList.drop (sLen * i.size + news.length)).toArray)) := by
  rcases Nat.lt_or_ge sCap (sLen + k) with hg | hg
  · refine .inl ⟨hg, grownCap w (sLen + k) sCap el, grownCap_ge w _ _ el, grownCap_le_maxLen w _ _ el hn, (Builtin.zeroCells z.cells (grownCap w (sLen + k) sCap el - (sLen + k))).toList, by rw [Array.length_toList, size_zeroCells], ?_⟩
    have hn' : ¬ (sLen + k ≤ sCap) := by omega
    have h63' : ¬ (9223372036854775807 < ((sLen : Int) + (k : Int))) := by
      unfold maxLen at hn
      omega
    have h48' : ¬ (281474976710656 < Builtin.nextslicecap (sLen + k) sCap * i.bytes) := by
      have := growslice_fits hg hb
      omega
    have e1 := hnews w.drew (Ext.refl w).drew
    have e2 := holds w.drew (Ext.refl w).drew
    simp [Builtin.append_, run_underlying ht, run_underlying hx, sizeOf, typeInfo, zeroValue, hi, hz, hk, hn', h63', h48', Question.forced, e1, e2, newRow, grownCap]
    congr 2
    apply Array.ext'
    simp
  · by_cases hc : sCap = 0
    · refine .inr (.inl ⟨hg, hc, ?_⟩)
      have hs0 : sLen = 0 := by omega
      have hk0 : k = 0 := by omega
      subst hs0
      subst hk0
      subst hc
      have hn0 : news = [] := List.eq_nil_of_length_eq_zero (by simpa using hnl)
      subst hn0
      have e1 := hnews w (Ext.refl w)
      cases base with
      | none => simp [Builtin.append_, run_underlying ht, run_underlying hx, sizeOf, typeInfo, hi, hk, e1]
      | some ad => simp [Builtin.append_, run_underlying ht, run_underlying hx, sizeOf, typeInfo, hi, hk, e1, storeCells]
    · obtain ⟨g, arr, t', rfl, hgw, hfit⟩ := hroom hc
      refine .inr (.inr ⟨hg, hc, g, arr, t', rfl, hgw, hfit, ?_⟩)
      have e1 := hnews w (Ext.refl w)
      have hle2 : (sLen + k) * i.size ≤ arr.size := Nat.le_trans (Nat.mul_le_mul_right _ hg) hfit
      rw [Nat.add_mul] at hle2
      have hst := run_storeCells_at P g (sLen * i.size) t' news 0 arr w hgw (by omega) h1
      simp only [Nat.add_zero] at hst
      simp [Builtin.append_, run_underlying ht, run_underlying hx, sizeOf, typeInfo, hi, hk, hg, e1, addr_add_plain, hst]
theorem run_app_st {t tx ty el : TypeId} {i : TypeInfo} {z : Value} (ht : P.underlying t = some (.slice el)) (hx : P.underlying tx = some .string) (hi : P.info? el = some i) (hz : i.zero = some z)
    {base : Option Addr} {sLen sCap : Nat} {x : Value} {k : Nat} {olds news : List Value} (hk : ∀ w', (Builtin.lenOf x).run P w' = .ok k w') (hnews : ∀ w', Ext w w' → (Builtin.firstCells i.size k x).run P w' = .ok news.toArray w') (hnl : news.length = k * i.size)
    (h1 : ∀ c ∈ news, c.oneCell' = true) (holds : ∀ w', Ext w w' → (Builtin.firstCells i.size sLen (.slice base sLen sCap)).run P w' = .ok olds.toArray w') (hol : olds.length = sLen * i.size)
    (hbase : base = none → sCap = 0) (hn : sLen + k ≤ maxLen) (hb : (sLen + k) * i.bytes ≤ 140737488355328)
    (hroom : sCap ≠ 0 → ∃ g arr t', base = some ⟨g, 0, none⟩ ∧ w.heap[g]? = some (.cells arr t' (0, 0)) ∧ sCap * i.size ≤ arr.size) (hle : sLen ≤ sCap) :
    (sCap < sLen + k ∧ ∃ cap, sLen + k ≤ cap ∧ cap ≤ maxLen ∧ ∃ rest : List Value, rest.length = (cap - (sLen + k)) * z.cells.size ∧
      (Builtin.append_ #[t, tx] ty #[.slice base sLen sCap, x]).run P w = .ok (.slice (some ⟨w.heap.size, 0, none⟩) (sLen + k) cap) (w.drew.alloc (.cells (olds ++ news ++ rest).toArray el))) ∨
    (sLen + k ≤ sCap ∧ sCap = 0 ∧ (Builtin.append_ #[t, tx] ty #[.slice base sLen sCap, x]).run P w = .ok (.slice base 0 0) w) ∨
    (sLen + k ≤ sCap ∧ sCap ≠ 0 ∧ ∃ g arr t', base = some ⟨g, 0, none⟩ ∧ w.heap[g]? = some (.cells arr t' (0, 0)) ∧ sCap * i.size ≤ arr.size ∧
      (Builtin.append_ #[t, tx] ty #[.slice base sLen sCap, x]).run P w = .ok (.slice base (sLen + k) sCap) (w.setRow g (arr.toList.take (sLen * i.size) ++ news ++ arr.toList.drop (sLen * i.size + news.length)).toArray)) := by
  rcases Nat.lt_or_ge sCap (sLen + k) with hg | hg
  · refine .inl ⟨hg, grownCap w (sLen + k) sCap el, grownCap_ge w _ _ el, grownCap_le_maxLen w _ _ el hn, (Builtin.zeroCells z.cells (grownCap w (sLen + k) sCap el - (sLen + k))).toList, by rw [Array.length_toList, size_zeroCells], ?_⟩
    have hn' : ¬ (sLen + k ≤ sCap) := by omega
    have h63' : ¬ (9223372036854775807 < ((sLen : Int) + (k : Int))) := by
      unfold maxLen at hn
      omega
    have h48' : ¬ (281474976710656 < Builtin.nextslicecap (sLen + k) sCap * i.bytes) := by
      have := growslice_fits hg hb
      omega
    have e1 := hnews w.drew (Ext.refl w).drew
    have e2 := holds w.drew (Ext.refl w).drew
    simp [Builtin.append_, run_underlying ht, run_underlying hx, sizeOf, typeInfo, zeroValue, hi, hz, hk, hn', h63', h48', Question.forced, e1, e2, newRow, grownCap]
    congr 2
    apply Array.ext'
    simp
  · by_cases hc : sCap = 0
    · refine .inr (.inl ⟨hg, hc, ?_⟩)
      have hs0 : sLen = 0 := by omega
      have hk0 : k = 0 := by omega
      subst hs0
      subst hk0
      subst hc
      have hn0 : news = [] := List.eq_nil_of_length_eq_zero (by simpa using hnl)
      subst hn0
      have e1 := hnews w (Ext.refl w)
      cases base with
      | none => simp [Builtin.append_, run_underlying ht, run_underlying hx, sizeOf, typeInfo, hi, hk, e1]
      | some ad => simp [Builtin.append_, run_underlying ht, run_underlying hx, sizeOf, typeInfo, hi, hk, e1, storeCells]
    · obtain ⟨g, arr, t', rfl, hgw, hfit⟩ := hroom hc
      refine .inr (.inr ⟨hg, hc, g, arr, t', rfl, hgw, hfit, ?_⟩)
      have e1 := hnews w (Ext.refl w)
      have hle2 : (sLen + k) * i.size ≤ arr.size := Nat.le_trans (Nat.mul_le_mul_right _ hg) hfit
      rw [Nat.add_mul] at hle2
      have hst := run_storeCells_at P g (sLen * i.size) t' news 0 arr w hgw (by omega) h1
      simp only [Nat.add_zero] at hst
      simp [Builtin.append_, run_underlying ht, run_underlying hx, sizeOf, typeInfo, hi, hk, hg, e1, addr_add_plain, hst]
theorem run_app {t tx ty el : TypeId} {i : TypeInfo} {z : Value} (ht : P.underlying t = some (.slice el)) (hx : (∃ ex, P.underlying tx = some (.slice ex)) ∨ P.underlying tx = some .string) (hi : P.info? el = some i) (hz : i.zero = some z)
    {base : Option Addr} {sLen sCap : Nat} {x : Value} {k : Nat} {olds news : List Value} (hk : ∀ w', (Builtin.lenOf x).run P w' = .ok k w') (hnews : ∀ w', Ext w w' → (Builtin.firstCells i.size k x).run P w' = .ok news.toArray w') (hnl : news.length = k * i.size)
    (h1 : ∀ c ∈ news, c.oneCell' = true) (holds : ∀ w', Ext w w' → (Builtin.firstCells i.size sLen (.slice base sLen sCap)).run P w' = .ok olds.toArray w') (hol : olds.length = sLen * i.size)
    (hbase : base = none → sCap = 0) (hn : sLen + k ≤ maxLen) (hb : (sLen + k) * i.bytes ≤ 140737488355328)
    (hroom : sCap ≠ 0 → ∃ g arr t', base = some ⟨g, 0, none⟩ ∧ w.heap[g]? = some (.cells arr t' (0, 0)) ∧ sCap * i.size ≤ arr.size) (hle : sLen ≤ sCap) :
    (sCap < sLen + k ∧ ∃ cap, sLen + k ≤ cap ∧ cap ≤ maxLen ∧ ∃ rest : List Value, rest.length = (cap - (sLen + k)) * z.cells.size ∧
      (Builtin.append_ #[t, tx] ty #[.slice base sLen sCap, x]).run P w = .ok (.slice (some ⟨w.heap.size, 0, none⟩) (sLen + k) cap) (w.drew.alloc (.cells (olds ++ news ++ rest).toArray el))) ∨
    (sLen + k ≤ sCap ∧ sCap = 0 ∧ (Builtin.append_ #[t, tx] ty #[.slice base sLen sCap, x]).run P w = .ok (.slice base 0 0) w) ∨
    (sLen + k ≤ sCap ∧ sCap ≠ 0 ∧ ∃ g arr t', base = some ⟨g, 0, none⟩ ∧ w.heap[g]? = some (.cells arr t' (0, 0)) ∧ sCap * i.size ≤ arr.size ∧
      (Builtin.append_ #[t, tx] ty #[.slice base sLen sCap, x]).run P w = .ok (.slice base (sLen + k) sCap) (w.setRow g (arr.toList.take (sLen * i.size) ++ news ++ arr.toList.drop (sLen * i.size + news.length)).toArray)) := by
  rcases hx with ⟨ex, hx⟩ | hx
  · exact run_app_sl ht hx hi hz hk hnews hnl h1 holds hol hbase hn hb hroom hle
  · exact run_app_st ht hx hi hz hk hnews hnl h1 holds hol hbase hn hb hroom hle
end
section
variable {P : Program} {tt : TT} {B : World} {X : List Nat} {N : Nat} {M : MM} {e : Env} {h : List Blk} {a : Act} {w : World}
theorem run_first0 {P : Program} {w : World} {n : Nat} (a : Option Addr) (l c : Nat) : (Builtin.firstCells n 0 (.slice a l c)).run P w = .ok #[] w := by
  cases a with
  | none => rfl
  | some ad => simp [Builtin.firstCells, loadCells, loadCellsFrom]
theorem src_sound (hI : MInv B.heap.size w M h) {n : Nat} {x : V} {cx : Value} (hx : rep w M h x cx) {K : List D → List Nat → Bool → Prop} (H : srcV h n x K) :
    ∃ ys is dp F, ∃ news : List Value, K ys is dp ∧ (∀ w', (Builtin.lenOf cx).run P w' = .ok ys.length w') ∧ (∀ w', Ext w w' → (Builtin.firstCells n ys.length cx).run P w' = .ok news.toArray w') ∧ news.length = ys.length * n ∧ (∀ c ∈ news, c.oneCell' = true) ∧
      (if dp = true then ownDe w news.toArray n ys 0 F else F = [] ∧ extDe M.O w news.toArray n ys 0) ∧ F.Nodup ∧ (∀ z ∈ F, ∃ i ∈ is, ∃ m, M[i]? = some m ∧ z ∈ mO m) ∧ (∀ i ∈ is, ∃ k, h[i]? = some k ∧ k.live = true) := by
  unfold srcV at H
  split at H
  · cases rep_nils.1 hx
    exact ⟨[], [], true, [], [], H, fun w' => rfl, fun w' _ => rfl, by simp, by simp, rfl, by simp, by simp, by simp⟩
  · rename_i ys
    obtain ⟨aa, cap, m, rfl, h1, h2, h3, h4⟩ := rep_lst.1 hx
    cases ys with
    | nil =>
      obtain ⟨⟨hf, H⟩ | ⟨hf, H⟩⟩ := H
      · exact ⟨[], [], true, [], [], H, fun w' => rfl, fun w' _ => run_first0 _ _ _, by simp, by simp, rfl, by simp, by simp, by simp⟩
      · exact ⟨[], [], false, [], [], H, fun w' => rfl, fun w' _ => run_first0 _ _ _, by simp, by simp, by rw [if_neg (by simp)]; exact ⟨rfl, trivial⟩, by simp, by simp, by simp⟩
    | cons y ys =>
      have h4' := h4
      obtain ⟨⟨b, o, ces, rfl, g1, g2, g3, g4, g5⟩, _⟩ := h4'
      have hm : m = n := by
        rw [← g4]
        obtain ⟨⟨hf, _⟩ | ⟨hf, _⟩⟩ := H
        · exact (hf y (by simp)).2
        · exact hf y (by simp)
      subst hm
      obtain ⟨news, k1, k2, k3, k4⟩ := repDe_row (y :: ys) 0 h4
      have hrd : ∀ w', Ext w w' → (Builtin.firstCells m (y :: ys).length (.slice (some ⟨b, o, none⟩) (y :: ys).length cap)).run P w' = .ok news.toArray w' := fun w' hb => by
        refine run_firstCells_some w' m _ _ _ _ news k1 fun j v hj => ?_
        rw [addr_add_plain]
        have := k2 j v hj
        rw [Nat.zero_mul, Nat.add_zero] at this
        exact hb.cellSome this
      obtain ⟨⟨hf, H⟩ | ⟨hf, H⟩⟩ := H
      · refine ⟨y :: ys, [], true, [], news, H, fun w' => rfl, hrd, k1, k3, ?_, by simp, by simp, by simp⟩
        rw [if_pos rfl]
        exact ext_own _ 0 (fun z hz => (hf z hz).1) k4
      · refine ⟨y :: ys, [], false, [], news, H, fun w' => rfl, hrd, k1, k3, ?_, by simp, by simp, by simp⟩
        rw [if_neg (by simp)]
        exact ⟨rfl, k4⟩
  · rename_i str
    cases hq : Nat.beq n 1 with
    | false => rw [hq] at H; exact H.elim
    | true =>
      rw [hq] at H
      simp only [cond_true] at H
      have := Nat.eq_of_beq_eq_true hq
      subst this
      obtain ⟨rfl, hs⟩ := rep_str.1 hx
      have hsl : (str.data.toList.map bD).length = str.size := by rw [List.length_map, Array.length_toList]; rfl
      have hown : ∀ l : List UInt8, ownDs w (l.map bD) [] (l.map fun c => Value.int .u8 (c.toNat : Int)) := by
        intro l
        induction l with
        | nil => exact ⟨rfl, rfl⟩
        | cons c l ih => exact ⟨[], [], [_], _, rfl, rfl, ⟨rfl, rfl, by have := c.toNat_lt; simp [inR, IntKind.min, IntKind.max, IntKind.bits, IntKind.signed]; omega⟩, ih⟩
      refine ⟨_, [], true, [], Lib.strCells str, H, fun w' => by rw [hsl]; rfl, fun w' _ => by rw [hsl]; exact Lib.run_firstCells_string w' 1 str, by rw [Lib.strCells_length, hsl, Nat.mul_one], fun c hc => ?_, ?_, by simp, by simp, by simp⟩
      · obtain ⟨b, _, rfl⟩ := List.mem_map.1 hc
        rfl
      · rw [if_pos rfl]
        have := (ownDs_De (n := 1) (str.data.toList.map bD) 0 [] [] (Lib.strCells str) (by simp) (by intro y hy; obtain ⟨c, _, rfl⟩ := List.mem_map.1 hy; rfl) (hown _)).1
        simpa using this
  · rename_i c off len
    split at H
    · rename_i n' ys dp hc
      cases hq : Nat.beq n' n with
      | false => rw [hq] at H; exact H.elim
      | true =>
        rw [hq] at H
        simp only [cond_true] at H
        have := Nat.eq_of_beq_eq_true hq
        subst this
        obtain ⟨⟨rfl, rfl, H⟩⟩ := H
        obtain ⟨aa, cap, rfl, h1, h2, h3, h4⟩ := rep_own.1 hx
        have hlive : ∀ i ∈ [c], ∃ k, h[i]? = some k ∧ k.live = true := by
          intro i hi
          have : i = c := by simpa using hi
          subst this
          exact ⟨_, hc, rfl⟩
        rcases h4 with h4 | ⟨g, F, arr, t', m1, rfl, m3, m4⟩
        · have : ys = [] := List.eq_nil_of_length_eq_zero (by omega)
          subst this
          exact ⟨[], [c], dp, [], [], H, fun w' => rfl, fun w' _ => run_first0 _ _ _, by simp, by simp, by cases dp <;> simp [ownDe, extDe], by simp, by simp, hlive⟩
        · have hn : nOf h c = n' := by simp [nOf, hc]
          rw [hn] at m4
          have hbr := hI.blk c _ _ hc m1
          obtain ⟨arr', t'', q1, q2, q3⟩ := hbr
          rw [m3] at q1
          cases q1
          have hat : ∀ j, j < ys.length * n' → (arr.toList.take (ys.length * n'))[j]? = arr[j]? := fun j hj => by
            rw [List.getElem?_take, if_pos hj, Array.getElem?_toList]
          have hnl : (arr.toList.take (ys.length * n')).length = ys.length * n' := by simp; omega
          have hel : ∀ k, k < ys.length → ∀ j, j < n' → (arr.toList.take (ys.length * n')).toArray[(0 + k) * n' + j]? = arr[(0 + k) * n' + j]? := fun k hk j hj => by
            rw [List.getElem?_toArray, hat]
            have := Nat.mul_le_mul_right n' (Nat.succ_le_of_lt hk)
            rw [Nat.succ_mul] at this
            rw [Nat.zero_add]; omega
          have hone : ∀ (xs : List D) (i : Nat), extDe [] w arr n' xs i → ∀ j, i * n' ≤ j → j < (i + xs.length) * n' → ∀ v, arr[j]? = some v → v.oneCell' = true := by
            intro xs
            induction xs with
            | nil => intro i _ j h1 h2; simp at h2; omega
            | cons x xs ih =>
              intro i ⟨⟨ces, e1, e2, e3⟩, e4⟩ j j1 j2 v hv
              by_cases hlt : j < (i + 1) * n'
              · have hl := repD_len x ces e3
                have hjl : j - i * n' < ces.length := by rw [hl, e1]; rw [Nat.succ_mul] at hlt; omega
                have := e2 (j - i * n') ces[j - i * n'] (List.getElem?_eq_getElem hjl)
                rw [show i * n' + (j - i * n') = j by omega, hv] at this
                cases this
                exact repD_one x ces e3 _ (List.getElem_mem hjl)
              · refine ih (i + 1) e4 j (by omega) ?_ v hv
                rw [show i + 1 + xs.length = i + (x :: xs).length by simp; omega]; exact j2
          have hext0 : extDe [] w arr n' ys 0 := by
            cases dp with
            | true => rw [if_pos rfl] at q3; exact ownDe_ext m3 q3
            | false =>
              rw [if_neg (by simp)] at q3
              exact extDe_mv (w' := w) (fun b _ _ => ⟨by simp, rfl⟩) ys 0 q3.2
          refine ⟨ys, [c], dp, F, arr.toList.take (ys.length * n'), H, fun w' => rfl, fun w' hb => ?_, hnl, fun v hv => ?_, ?_, ?_, fun z hz => ⟨c, by simp, _, m1, by simp [mO, hz]⟩, hlive⟩
          · refine run_firstCells_some w' n' _ _ _ _ _ hnl fun j v hj => ?_
            rw [addr_add_plain, Nat.zero_mul, Nat.zero_add]
            have hjl : j < ys.length * n' := by rw [← hnl]; exact (List.getElem?_eq_some_iff.1 hj).1
            rw [hat j hjl] at hj
            exact hb.cellSome (by simp [World.cell?, m3, hj])
          · obtain ⟨j, hj⟩ := List.getElem?_of_mem hv
            have hjl : j < ys.length * n' := by rw [← hnl]; exact (List.getElem?_eq_some_iff.1 hj).1
            rw [hat j hjl] at hj
            exact hone ys 0 hext0 j (by omega) (by rw [Nat.zero_add]; exact hjl) v hj
          · cases dp with
            | true => rw [if_pos rfl] at q3 ⊢; exact ownDe_at ys 0 0 F hel q3
            | false => rw [if_neg (by simp)] at q3 ⊢; exact ⟨q3.1, extDe_at ys 0 0 hel q3.2⟩
          · have := mO_nodup' hI m1
            exact (List.nodup_cons.1 this).2
    · exact H.elim
  · exact H.elim
theorem own_row {arr arr' : Array Value} {n : Nat} {xs ys : List D} {len : Nat} {F Fy : List Nat} {news : Array Value} (hlen : len ≤ xs.length) (h1 : ownDe w arr n xs 0 F) (h2 : ownDe w news n ys 0 Fy)
    (g1 : ∀ j, j < len * n → arr'[j]? = arr[j]?) (g2 : ∀ j, j < ys.length * n → arr'[len * n + j]? = news[j]?) : ∃ F1 F2, F = F1 ++ F2 ∧ ownDe w arr' n (xs.take len ++ ys) 0 (F1 ++ Fy) := by
  rw [← List.take_append_drop len xs] at h1
  obtain ⟨F1, F2, rfl, k1, k2⟩ := (ownDe_app _ _ _ _).1 h1
  have hl : (xs.take len).length = len := by simp; omega
  refine ⟨F1, F2, rfl, (ownDe_app _ _ _ _).2 ⟨F1, Fy, rfl, ownDe_at _ 0 0 F1 (fun k hk j hj => ?_) k1, ownDe_at ys 0 _ Fy (fun k hk j hj => ?_) h2⟩⟩
  · rw [hl] at hk
    have := Nat.mul_le_mul_right n (Nat.succ_le_of_lt hk)
    rw [Nat.succ_mul] at this
    rw [Nat.zero_add]
    exact g1 _ (by omega)
  · have := Nat.mul_le_mul_right n (Nat.succ_le_of_lt hk)
    rw [Nat.succ_mul] at this
    rw [hl, Nat.zero_add, Nat.zero_add, Nat.add_mul, Nat.add_assoc]
    exact g2 _ (by omega)
theorem ext_row2 {O : List Nat} {arr arr' : Array Value} {n : Nat} {xs ys : List D} {len : Nat} {news : Array Value} (hlen : len ≤ xs.length) (h1 : extDe O w arr n xs 0) (h2 : extDe O w news n ys 0)
    (g1 : ∀ j, j < len * n → arr'[j]? = arr[j]?) (g2 : ∀ j, j < ys.length * n → arr'[len * n + j]? = news[j]?) : extDe O w arr' n (xs.take len ++ ys) 0 := by
  rw [← List.take_append_drop len xs] at h1
  obtain ⟨k1, k2⟩ := (extDe_app _ _ _).1 h1
  have hl : (xs.take len).length = len := by simp; omega
  refine (extDe_app _ _ _).2 ⟨extDe_at _ 0 0 (fun k hk j hj => ?_) k1, extDe_at ys 0 _ (fun k hk j hj => ?_) h2⟩
  · rw [hl] at hk
    have := Nat.mul_le_mul_right n (Nat.succ_le_of_lt hk)
    rw [Nat.succ_mul] at this
    rw [Nat.zero_add]
    exact g1 _ (by omega)
  · have := Nat.mul_le_mul_right n (Nat.succ_le_of_lt hk)
    rw [Nat.succ_mul] at this
    rw [hl, Nat.zero_add, Nat.zero_add, Nat.add_mul, Nat.add_assoc]
    exact g2 _ (by omega)
theorem app_core (R : Rep B X N M e h a w) {b : Nat} (hb0 : b ≠ 0) {n : Nat} {xs ys : List D} {dp : Bool} {k0 : Blk} (hk0 : h[b]? = some k0) (hkb : k0 = .arr n xs dp ∨ (k0 = .gone ∧ M[b]? = some none ∧ xs = [])) (hns : 1 ≤ n)
    {is : List Nat} (hbi : b ∉ is) {len : Nat} (hlen : len ≤ xs.length) {base : Option Addr} {sCap : Nat}
    (ho : ownR w M (if k0.live then h else h.set b (.arr n xs dp)) b 0 len (.slice base len sCap)) {Fy : List Nat} {news : List Value} (hnl : news.length = ys.length * n)
    (hel : if dp = true then ownDe w news.toArray n ys 0 Fy else Fy = [] ∧ extDe M.O w news.toArray n ys 0) (hFy : Fy.Nodup) (hFm : ∀ z ∈ Fy, ∃ i ∈ is, ∃ m, M[i]? = some m ∧ z ∈ mO m) (hisl : ∀ i ∈ is, ∃ k, h[i]? = some k ∧ k.live = true)
    {el : TypeId} {zs : Nat} {cv : Value} {w' : World} (hmax : len + ys.length ≤ maxLen) (hzs : zs = n)
    (hrun : (∃ cap, len + ys.length ≤ cap ∧ cap ≤ maxLen ∧ sCap < len + ys.length ∧ ∃ rest olds : List Value, rest.length = (cap - (len + ys.length)) * zs ∧ olds.length = len * n ∧ (∀ j, j < len * n → ∀ g F arr t, M[b]? = some (some (g, F)) → w.heap[g]? = some (.cells arr t (0, 0)) → olds[j]? = arr[j]?) ∧
        cv = .slice (some ⟨w.heap.size, 0, none⟩) (len + ys.length) cap ∧ w' = w.drew.alloc (.cells (olds ++ news ++ rest).toArray el)) ∨
      (sCap = 0 ∧ len + ys.length = 0 ∧ cv = .slice base 0 0 ∧ w' = w) ∨
      (len + ys.length ≤ sCap ∧ sCap ≠ 0 ∧ ∃ g arr t', base = some ⟨g, 0, none⟩ ∧ w.heap[g]? = some (.cells arr t' (0, 0)) ∧ sCap * n ≤ arr.size ∧ cv = .slice base (len + ys.length) sCap ∧
        w' = w.setRow g (arr.toList.take (len * n) ++ news ++ arr.toList.drop (len * n + news.length)).toArray)) :
    ∃ M', Rep B X N M' (dropE (b :: is) e) ((goneL is (dropK (b :: is) h)).set b (.arr n (xs.take len ++ ys) dp)) a w' ∧ rep w' M' ((goneL is (dropK (b :: is) h)).set b (.arr n (xs.take len ++ ys) dp)) (.own b 0 (len + ys.length)) cv := by
  have hbl : b < h.length := (List.getElem?_eq_some_iff.1 hk0).1
  obtain ⟨m0, hM⟩ := at_lt (xs := M) (k := b) (by rw [R.inv.len]; exact hbl)
  have hl0 : k0.live = true ∨ m0 = none := by
    rcases hkb with rfl | ⟨rfl, q, _⟩
    · exact .inl rfl
    · rw [hM] at q; cases q; exact .inr rfl
  have hisn : ∀ i ∈ is, i ≠ 0 := fun i hi e0 => by
    obtain ⟨k, hk, hl⟩ := hisl i hi
    subst e0
    rw [R.fh] at hk
    cases hk
    cases hl
  have hislv : ∀ i ∈ is, ∀ k, h[i]? = some k → k.live = true := fun i hi k hk => by
    obtain ⟨k1, hk1, hl⟩ := hisl i hi
    rw [hk1] at hk
    cases hk
    exact hl
  have hbr := R.inv.blk b k0 m0 hk0 hM
  have hnof : nOf ((goneL is (dropK (b :: is) h)).set b (.arr n (xs.take len ++ ys) dp)) b = n := by
    unfold nOf
    rw [List.getElem?_set_self (by rw [goneL_len, dropK_len]; exact hbl)]
  have hnof0 : nOf (if k0.live then h else h.set b (.arr n xs dp)) b = n := by
    rcases hkb with rfl | ⟨rfl, q, _⟩
    · rw [if_pos (show (Blk.arr n xs dp).live = true from rfl)]; simp [nOf, hk0]
    · rw [if_neg (by simp [Blk.live])]
      unfold nOf
      rw [List.getElem?_set_self hbl]
  have htl : (xs.take len ++ ys).length = len + ys.length := by simp; omega
  -- what the old row held
  have hold : ∀ g F, m0 = some (g, F) → ∃ arr t, w.heap[g]? = some (.cells arr t (0, 0)) ∧ xs.length * n ≤ arr.size ∧ (if dp = true then ownDe w arr n xs 0 F else F = [] ∧ extDe M.O w arr n xs 0) := fun g F hm => by
    subst hm
    rcases hkb with rfl | ⟨rfl, q, _⟩
    · exact hbr
    · rw [hM] at q; cases q
  have hnone : m0 = none → xs = [] := fun hm => by
    subst hm
    rcases hkb with rfl | ⟨rfl, q, hx⟩
    · exact hbr
    · exact hx
  have finish : ∀ (m' : Option (Nat × List Nat)) (hx : Ext B w') (hnd : (mO m').Nodup) (hL : ∀ x ∈ mO m', x ∈ mO m0 ∨ (∃ i ∈ is, ∃ m, M[i]? = some m ∧ x ∈ mO m) ∨ w.heap.size ≤ x) (hLhi : ∀ x ∈ mO m', x < w'.heap.size) (hws : w.heap.size ≤ w'.heap.size)
      (hch : ∀ x, x < w.heap.size → x ∉ mO m0 → w'.heap[x]? = w.heap[x]?)
      (hB : ∀ (M' : MM) (h' : List Blk), (∀ x, x ∉ M.O → x < w.heap.size → x ∉ MM.O M' ∧ w'.heap[x]? = w.heap[x]?) → BRep w' M' h' (.arr n (xs.take len ++ ys) dp) m')
      (hv : ∀ (M' : MM) (h' : List Blk), M'[b]? = some m' → nOf h' b = n → ownR w' M' h' b 0 (len + ys.length) cv),
      ∃ M', Rep B X N M' (dropE (b :: is) e) ((goneL is (dropK (b :: is) h)).set b (.arr n (xs.take len ++ ys) dp)) a w' ∧ rep w' M' ((goneL is (dropK (b :: is) h)).set b (.arr n (xs.take len ++ ys) dp)) (.own b 0 (len + ys.length)) cv := by
    intro m' hx hnd hL hLhi hws hch hB hv
    obtain ⟨M', R', hM', _⟩ := R.reset hx hM hb0 hk0 hl0 is (b :: is) (fun hi => hisn 0 hi rfl) hbi (fun i hi => by simp [hi]) hislv hnd hL hLhi hws hch (k' := .arr n (xs.take len ++ ys) dp) rfl (fun q => absurd (by simp) q) hB
    exact ⟨M', R', rep_own.2 (hv _ _ hM' hnof)⟩
  obtain ⟨aa, cap0, ecv, o1, o2, o3, o4⟩ := ho
  cases ecv
  rcases hrun with ⟨cap, r1, r2, r3, rest, olds, r4, r5, r6, rfl, rfl⟩ | ⟨rfl, r1, rfl, rfl⟩ | ⟨r1, r2, g, arr, t', rfl, r4, r5, rfl, rfl⟩
  · -- a new row
    have hx : Ext w (w.drew.alloc (.cells (olds ++ news ++ rest).toArray el)) := ((Ext.refl w).drew).alloc _
    have hnew : (w.drew.alloc (.cells (olds ++ news ++ rest).toArray el)).heap[w.heap.size]? = some (.cells (olds ++ news ++ rest).toArray el (0, 0)) := heap_new w.drew _
    have hsz : (olds ++ news ++ rest).toArray.size = cap * n := by
      simp only [List.size_toArray, List.length_append, r5, hnl, r4, hzs]
      rw [← Nat.add_mul, ← Nat.add_mul]
      congr 1
      omega
    have g1 : ∀ j, j < len * n → (olds ++ news ++ rest).toArray[j]? = olds[j]? := fun j hj => by
      rw [List.getElem?_toArray, List.append_assoc, List.getElem?_append_left (by omega)]
    have g2 : ∀ j, j < ys.length * n → (olds ++ news ++ rest).toArray[len * n + j]? = news.toArray[j]? := fun j hj => by
      rw [List.getElem?_toArray, List.append_assoc, List.getElem?_append_right (by omega), List.getElem?_append_left (by omega), List.getElem?_toArray]
      congr 1
      omega
    -- the elements
    have hels : ∃ F1, (∀ x ∈ F1, x ∈ mO m0) ∧ F1.Nodup ∧ (∀ x ∈ F1, ∀ g F, m0 = some (g, F) → x ≠ g) ∧ (if dp = true then ownDe w (olds ++ news ++ rest).toArray n (xs.take len ++ ys) 0 (F1 ++ Fy) else (F1 ++ Fy) = [] ∧ extDe M.O w (olds ++ news ++ rest).toArray n (xs.take len ++ ys) 0) := by
      cases hm0 : m0 with
      | none =>
        have hxs := hnone hm0
        subst hxs
        have hlen0 : len = 0 := by simpa using hlen
        subst hlen0
        refine ⟨[], by simp, by simp, by simp, ?_⟩
        simp only [List.take_nil, List.nil_append]
        have g2' : ∀ k, k < ys.length → ∀ j, j < n → (olds ++ news ++ rest).toArray[(0 + k) * n + j]? = news.toArray[(0 + k) * n + j]? := fun k hk j hj => by
          have := Nat.mul_le_mul_right n (Nat.succ_le_of_lt hk)
          rw [Nat.succ_mul] at this
          have := g2 ((0 + k) * n + j) (by rw [Nat.zero_add]; omega)
          rw [Nat.zero_mul, Nat.zero_add] at this
          exact this
        cases dp with
        | true => rw [if_pos rfl] at hel ⊢; exact ownDe_at ys 0 0 Fy g2' hel
        | false => rw [if_neg (by simp)] at hel ⊢; exact ⟨hel.1, extDe_at ys 0 0 g2' hel.2⟩
      | some p =>
        obtain ⟨g, F⟩ := p
        obtain ⟨arr, t, q1, q2, q3⟩ := hold g F hm0
        have g1' : ∀ j, j < len * n → (olds ++ news ++ rest).toArray[j]? = arr[j]? := fun j hj => by
          rw [g1 j hj]
          exact r6 j hj g F arr t (by rw [hM, hm0]) q1
        have hnd := mO_nodup' R.inv (by rw [hM, hm0] : M[b]? = some (some (g, F)))
        cases dp with
        | true =>
          rw [if_pos rfl] at hel q3
          obtain ⟨F1, F2, rfl, k1⟩ := own_row hlen q3 hel g1' g2
          refine ⟨F1, fun x hx => by simp [mO, hx], (List.nodup_append.1 (List.nodup_cons.1 hnd).2).1, fun x hx g0 F0 e0 => ?_, by rw [if_pos rfl]; exact k1⟩
          cases e0
          rintro rfl
          exact (List.nodup_cons.1 hnd).1 (by simp [hx])
        | false =>
          rw [if_neg (by simp)] at hel q3
          refine ⟨[], by simp, by simp, by simp, ?_⟩
          rw [if_neg (by simp)]
          exact ⟨by simp [hel.1], ext_row2 hlen q3.2 hel.2 g1' g2⟩
    obtain ⟨F1, f1, f2, f3, f4⟩ := hels
    have hFn : (F1 ++ Fy).Nodup := List.nodup_append.2 ⟨f2, hFy, fun x hx y hy e0 => by
      subst e0
      obtain ⟨i, hi, m, hm, hxm⟩ := hFm x hy
      have := O_block_inj R.inv hM hm (f1 x hx) hxm
      subst this
      exact hbi hi⟩
    have hFb : ∀ x ∈ F1 ++ Fy, x ∈ M.O := fun x hx => by
      rcases List.mem_append.1 hx with hx | hx
      · exact mem_O hM (f1 x hx)
      · obtain ⟨i, hi, m, hm, hxm⟩ := hFm x hx
        exact mem_O hm hxm
    refine finish (some (w.heap.size, F1 ++ Fy)) (R.ext.trans hx) ?_ ?_ ?_ (by simp) (fun x hlt _ => hx.below.block x hlt) ?_ ?_
    · refine List.nodup_cons.2 ⟨fun hm => ?_, hFn⟩
      have := R.inv.hi _ (hFb _ hm)
      omega
    · intro x hxm
      rcases List.mem_cons.1 hxm with rfl | hxm
      · exact .inr (.inr (Nat.le_refl _))
      · rcases List.mem_append.1 hxm with hxm | hxm
        · exact .inl (f1 x hxm)
        · exact .inr (.inl (hFm x hxm))
    · intro x hxm
      rcases List.mem_cons.1 hxm with rfl | hxm
      · simp
      · have := R.inv.hi x (hFb x hxm)
        simp; omega
    · intro M' h' hext
      refine ⟨_, _, hnew, by rw [htl, hsz]; exact Nat.mul_le_mul_right _ r1, ?_⟩
      cases dp with
      | true =>
        rw [if_pos rfl] at f4 ⊢
        exact ownDe_mv _ _ _ _ _ (fun x hxm => hx.below.block x (R.inv.hi x (hFb x hxm))) f4
      | false =>
        rw [if_neg (by simp)] at f4 ⊢
        exact ⟨f4.1, extDe_mv hext _ _ f4.2⟩
    · intro M' h' hM' hn'
      exact ⟨_, cap, rfl, r1, r2, (fun q => by cases q), .inr ⟨w.heap.size, _, _, _, hM', by rw [hn', Nat.zero_mul], hnew, by rw [hn', hsz, Nat.zero_add]; exact Nat.le_refl _⟩⟩
  · -- nothing at all
    have hy0 : ys = [] := List.eq_nil_of_length_eq_zero (by omega)
    subst hy0
    have hl0' : len = 0 := by omega
    subst hl0'
    refine finish none R.ext (by simp [mO]) (by simp [mO]) (by simp [mO]) (Nat.le_refl _) (fun _ _ _ => rfl) (fun M' h' _ => by simp [BRep]) (fun M' h' _ _ => ⟨_, 0, rfl, Nat.le_refl _, Nat.zero_le _, fun _ => rfl, .inl rfl⟩)
  · -- in place
    rcases o4 with o4 | ⟨g', F, arr', t, m1, m2, m3, m4⟩
    · exact absurd o4 r2
    have hgg : g' = g := by
      have := Option.some.inj m2
      exact (congrArg Addr.block this).symm
    subst hgg
    rw [r4] at m3
    cases m3
    rw [hM] at m1
    have hm0 : m0 = some (g', F) := Option.some.inj m1
    obtain ⟨arr1, t1, q1, q2, q3⟩ := hold g' F hm0
    rw [r4] at q1
    cases q1
    have hnd := mO_nodup' R.inv (by rw [hM, hm0] : M[b]? = some (some (g', F)))
    have hle2 : (len + ys.length) * n ≤ arr.size := Nat.le_trans (Nat.mul_le_mul_right _ r1) r5
    rw [Nat.add_mul] at hle2
    have htk : (arr.toList.take (len * n)).length = len * n := by simp; omega
    have hsz : (arr.toList.take (len * n) ++ news ++ arr.toList.drop (len * n + news.length)).toArray.size = arr.size := by simp; omega
    have g1 : ∀ j, j < len * n → (arr.toList.take (len * n) ++ news ++ arr.toList.drop (len * n + news.length)).toArray[j]? = arr[j]? := fun j hj => by
      rw [List.getElem?_toArray, List.append_assoc, List.getElem?_append_left (by omega), List.getElem?_take, if_pos hj, Array.getElem?_toList]
    have g2 : ∀ j, j < ys.length * n → (arr.toList.take (len * n) ++ news ++ arr.toList.drop (len * n + news.length)).toArray[len * n + j]? = news.toArray[j]? := fun j hj => by
      rw [List.getElem?_toArray, List.append_assoc, List.getElem?_append_right (by omega), List.getElem?_append_left (by omega), List.getElem?_toArray]
      congr 1
      omega
    have hlo : B.heap.size ≤ g' := by
      rcases hkb with rfl | ⟨rfl, q, _⟩
      · exact R.inv.lo b _ m0 hk0 hM rfl g' (by rw [hm0]; simp [mO])
      · rw [hM, hm0] at q; cases q
    have hels : ∃ F1, (∀ x ∈ F1, x ∈ F) ∧ F1.Nodup ∧ (if dp = true then ownDe w (arr.toList.take (len * n) ++ news ++ arr.toList.drop (len * n + news.length)).toArray n (xs.take len ++ ys) 0 (F1 ++ Fy) else (F1 ++ Fy) = [] ∧ extDe M.O w (arr.toList.take (len * n) ++ news ++ arr.toList.drop (len * n + news.length)).toArray n (xs.take len ++ ys) 0) := by
      cases dp with
      | true =>
        rw [if_pos rfl] at hel q3
        obtain ⟨F1, F2, rfl, k1⟩ := own_row hlen q3 hel g1 g2
        exact ⟨F1, fun x hx => by simp [hx], (List.nodup_append.1 (List.nodup_cons.1 hnd).2).1, by rw [if_pos rfl]; exact k1⟩
      | false =>
        rw [if_neg (by simp)] at hel q3
        exact ⟨[], by simp, by simp, by rw [if_neg (by simp)]; exact ⟨by simp [hel.1], ext_row2 hlen q3.2 hel.2 g1 g2⟩⟩
    obtain ⟨F1, f1, f2, f4⟩ := hels
    have hgn : g' ∉ F := (List.nodup_cons.1 hnd).1
    have hFyg : ∀ x ∈ Fy, x ≠ g' ∧ x ∉ F := fun x hx => by
      obtain ⟨i, hi, m, hm, hxm⟩ := hFm x hx
      refine ⟨fun e0 => ?_, fun hF => ?_⟩
      · subst e0
        have := O_block_inj R.inv hM hm (by rw [hm0]; simp [mO]) hxm
        subst this
        exact hbi hi
      · have := O_block_inj R.inv hM hm (by rw [hm0]; simp [mO, hF]) hxm
        subst this
        exact hbi hi
    have hFb : ∀ x ∈ F1 ++ Fy, x ∈ M.O ∧ x ≠ g' := fun x hx => by
      rcases List.mem_append.1 hx with hx | hx
      · exact ⟨mem_O hM (by rw [hm0]; simp [mO, f1 x hx]), fun e0 => hgn (by rw [← e0]; exact f1 x hx)⟩
      · obtain ⟨i, hi, m, hm, hxm⟩ := hFm x hx
        exact ⟨mem_O hm hxm, (hFyg x hx).1⟩
    refine finish (some (g', F1 ++ Fy)) (ext_setRow R.ext hlo _) ?_ ?_ ?_ (by rw [setRow_size]; exact Nat.le_refl _) (fun x hlt hx => setRow_other (fun e0 => hx (by rw [hm0, e0]; simp [mO])) _) ?_ ?_
    · refine List.nodup_cons.2 ⟨fun hm => (hFb _ hm).2 rfl, List.nodup_append.2 ⟨f2, hFy, fun x hx y hy e0 => ?_⟩⟩
      subst e0
      exact (hFyg x hy).2 (f1 x hx)
    · intro x hxm
      rcases List.mem_cons.1 hxm with rfl | hxm
      · exact .inl (by rw [hm0]; simp [mO])
      · rcases List.mem_append.1 hxm with hxm | hxm
        · exact .inl (by rw [hm0]; simp [mO, f1 x hxm])
        · exact .inr (.inl (hFm x hxm))
    · intro x hxm
      rw [setRow_size]
      rcases List.mem_cons.1 hxm with rfl | hxm
      · exact lt_of_heap r4
      · exact R.inv.hi x (hFb x hxm).1
    · intro M' h' hext
      refine ⟨_, _, setRow_at r4 _, by rw [htl, hsz, Nat.add_mul]; exact hle2, ?_⟩
      cases dp with
      | true =>
        rw [if_pos rfl] at f4 ⊢
        exact ownDe_mv _ _ _ _ _ (fun x hxm => setRow_other (hFb x hxm).2 _) f4
      | false =>
        rw [if_neg (by simp)] at f4 ⊢
        exact ⟨f4.1, extDe_mv hext _ _ f4.2⟩
    · intro M' h' hM' hn'
      exact ⟨_, sCap, rfl, r1, o2, (fun q => by cases q), .inr ⟨g', _, _, _, hM', by rw [hn', Nat.zero_mul], setRow_at r4 _, by rw [hn', hsz, Nat.zero_add]; exact r5⟩⟩
theorem srcV_app {h : List Blk} {m : Blk} {n : Nat} {x : V} {K : List D → List Nat → Bool → Prop} (H : srcV h n x K) : srcV (h ++ [m]) n x K := by
  unfold srcV at H ⊢
  split at H
  · exact H
  · exact H
  · exact H
  · rename_i c off len
    split at H
    · rename_i hc
      rw [get_app_left hc]
      exact H
    · exact H.elim
  · exact H.elim
theorem app_sound (hT : TOk P tt) (R : Rep B X N M e h a w) {t tx ty : Nat} {s x : V} {cs cx : Value} (hs : rep w M h s cs) (hx : rep w M h x cx) {K : V → Env → List Blk → Prop} (H : appV tt t tx s x e h K) :
    ∃ v cv e' h' M' w', K v e' h' ∧ (Builtin.append_ #[t, tx] ty #[cs, cx]).run P w = .ok cv w' ∧ Rep B X N M' e' h' a w' ∧ rep w' M' h' v cv := by
  unfold appV at H
  split at H
  · rename_i el sz by' zr eq0 hti
    obtain ⟨fi, d, z, h1, h2, h3, h4, h5, h6, h7, h8, h9⟩ := (hT t _ hti).ex
    cases d <;> first
      | exact (h6 : False).elim
      | skip
    cases (h6 : _ = el)
    cases hsr : isSrc (tt tx) x with
    | false => rw [hsr] at H; exact H.elim
    | true =>
    rw [hsr] at H
    simp only [cond_true] at H
    have i5 := isSrc_spec hT hsr
    split at H
    · rename_i ie hie
      obtain ⟨fe, de, ze, e1, e2, e3, e4, e5, e6, e7, e8, e9⟩ := (hT _ _ hie).ex
      cases hq : Nat.ble 1 ie.size with
      | false => rw [hq] at H; exact H.elim
      | true =>
        rw [hq] at H
        simp only [cond_true] at H
        have hsz1 := Nat.le_of_ble_eq_true hq
        split at H
        · -- a slice that is nil
          cases rep_nils.1 hs
          have R1 := R.room
          have hx1 : rep w (M ++ [none]) (h ++ [.gone]) x cx := rep_mv (push_mv R.inv.len (Ext.refl w) R.inv.hi (by simp [MM.O, mO])) _ _ (V.inS_all _) hx
          obtain ⟨ys, is, dp, F, news, ⟨⟨k1, k2, kK⟩⟩, l1, l2, l3, l4, l5, l6, l7, l8⟩ := src_sound (P := P) (B := B) R1.inv hx1 (srcV_app H)
          have hra := run_app (P := P) (w := w) (t := t) (tx := tx) (ty := ty) (base := none) (sLen := 0) (sCap := 0) (olds := []) h5 i5 e1 e4 l1 (by rw [e2]; exact l2) (by rw [e2]; exact l3) l4 (fun w' _ => run_first0 _ _ _) (by simp) (fun _ => rfl) (by rw [Nat.zero_add]; exact k1) (by rw [Nat.zero_add, e3]; exact k2) (fun q => absurd rfl q) (Nat.le_refl _)
          have hb0 : h.length ≠ 0 := by
            have := (List.getElem?_eq_some_iff.1 R.fh).1
            omega
          have hMl : (M ++ [none])[h.length]? = some none := by
            rw [← R.inv.len, List.getElem?_append_right (Nat.le_refl _)]; simp
          have hhl : (h ++ [Blk.gone])[h.length]? = some .gone := by rw [List.getElem?_append_right (Nat.le_refl _)]; simp
          have hbi : h.length ∉ is := fun hi => by
            obtain ⟨k, hk, hl⟩ := l8 _ hi
            rw [hhl] at hk
            cases hk
            cases hl
          have core := fun cv w' => app_core R1 (b := h.length) hb0 (n := ie.size) (xs := []) (ys := ys) (dp := dp) (k0 := .gone) hhl (.inr ⟨rfl, hMl, rfl⟩) hsz1 (is := is) hbi (len := 0) (Nat.le_refl _) (base := none) (sCap := 0)
            ⟨none, 0, rfl, Nat.le_refl _, Nat.zero_le _, fun _ => rfl, .inl rfl⟩ (Fy := F) (news := news) l3 l5 l6 l7 l8 (el := el) (zs := ze.cells.size) (cv := cv) (w' := w') (by rw [Nat.zero_add]; exact k1) e8
          rcases hra with ⟨q1, cap, q2, q3, rest, q4, q5⟩ | ⟨q1, q2, q3⟩ | ⟨q1, q2, _⟩
          · obtain ⟨M', R', hv⟩ := core _ _ (.inl ⟨cap, by omega, q3, by omega, rest, [], by rw [q4], by simp, by simp, rfl, rfl⟩)
            simp only [List.take_nil, List.nil_append, Nat.zero_add] at R' hv
            exact ⟨_, _, _, _, M', _, kK, by rw [q5, Nat.zero_add, List.nil_append], R', hv⟩
          · obtain ⟨M', R', hv⟩ := core _ _ (.inr (.inl ⟨rfl, by omega, rfl, rfl⟩))
            simp only [List.take_nil, List.nil_append, Nat.zero_add] at R' hv
            exact ⟨_, _, _, _, M', _, kK, q3, R', hv⟩
          · exact absurd rfl q2
        · -- a slice of our own
          rename_i b off len
          split at H
          · rename_i n xs dp hb
            cases hqn : Nat.beq n ie.size with
            | false => rw [hqn] at H; exact H.elim
            | true =>
              rw [hqn] at H
              simp only [cond_true] at H
              have := Nat.eq_of_beq_eq_true hqn
              subst this
              obtain ⟨⟨rfl, hlen, H⟩⟩ := H
              obtain ⟨ys, is, dp', F, news, kK, l1, l2, l3, l4, l5, l6, l7, l8⟩ := src_sound (P := P) (B := B) R.inv hx H
              cases hqd : ((dp == dp') && !is.any (Nat.beq b)) with
              | false => rw [hqd] at kK; exact kK.elim
              | true =>
                rw [hqd] at kK
                simp only [cond_true] at kK
                obtain ⟨⟨k1, k2, kK⟩⟩ := kK
                simp only [Bool.and_eq_true, beq_iff_eq, Bool.not_eq_true', List.any_eq_false] at hqd
                obtain ⟨rfl, hbi'⟩ := hqd
                have hbi : b ∉ is := fun hi => hbi' b hi (Nat.beq_refl b)
                have ho := rep_own.1 hs
                have ho' := ho
                obtain ⟨base, sCap, rfl, o1, o2, o3, o4⟩ := ho'
                have hn : nOf h b = ie.size := by simp [nOf, hb]
                have hb0 : b ≠ 0 := fun e0 => by
                  subst e0
                  rw [R.fh] at hb
                  cases hb
                -- what is there
                have ⟨olds, s1, s2, s3⟩ : ∃ olds : List Value, (∀ w', Ext w w' → (Builtin.firstCells ie.size len (.slice base len sCap)).run P w' = .ok olds.toArray w') ∧ olds.length = len * ie.size ∧
                    (∀ j, j < len * ie.size → ∀ g F arr t, M[b]? = some (some (g, F)) → w.heap[g]? = some (.cells arr t (0, 0)) → olds[j]? = arr[j]?) := by
                  rcases o4 with o4 | ⟨g, F', arr, t', m1, rfl, m3, m4⟩
                  · have : len = 0 := by omega
                    subst this
                    exact ⟨[], fun w' _ => run_first0 _ _ _, by simp, fun j hj => by simp at hj⟩
                  · rw [hn] at m4
                    have hle : len * ie.size ≤ arr.size := by
                      have := Nat.mul_le_mul_right ie.size o1
                      rw [Nat.zero_add] at m4
                      omega
                    refine ⟨arr.toList.take (len * ie.size), fun w' hb' => ?_, by simp; omega, fun j hj g1 F1 arr1 t1 hm1 hg1 => ?_⟩
                    · refine run_firstCells_some w' ie.size _ _ _ _ _ (by simp; omega) fun j v hj => ?_
                      rw [addr_add_plain, hn, Nat.zero_mul, Nat.zero_add]
                      have hjl : j < len * ie.size := by
                        have := (List.getElem?_eq_some_iff.1 hj).1
                        simp at this
                        omega
                      rw [List.getElem?_take, if_pos hjl, Array.getElem?_toList] at hj
                      exact hb'.cellSome (by simp [World.cell?, m3, hj])
                    · rw [m1] at hm1
                      cases hm1
                      rw [m3] at hg1
                      cases hg1
                      rw [List.getElem?_take, if_pos hj, Array.getElem?_toList]
                have hroom : sCap ≠ 0 → ∃ g arr t', base = some ⟨g, 0, none⟩ ∧ w.heap[g]? = some (.cells arr t' (0, 0)) ∧ sCap * fe.size ≤ arr.size := fun q => by
                  rcases o4 with o4 | ⟨g, F', arr, t', m1, m2, m3, m4⟩
                  · exact absurd o4 q
                  · rw [hn] at m4 m2
                    exact ⟨g, arr, t', by rw [m2, Nat.zero_mul], m3, by rw [e2]; rw [Nat.zero_add] at m4; exact m4⟩
                have hra := run_app (P := P) (w := w) (t := t) (tx := tx) (ty := ty) (base := base) (sLen := len) (sCap := sCap) (olds := olds) h5 i5 e1 e4 l1 (by rw [e2]; exact l2) (by rw [e2]; exact l3) l4 (by rw [e2]; exact s1) (by rw [e2]; exact s2) o3 k1 (by rw [e3]; exact k2) hroom o1
                have core := fun cv w' => app_core R (b := b) hb0 (n := ie.size) (xs := xs) (ys := ys) (dp := dp) hb (.inl rfl) hsz1 (is := is) hbi (len := len) hlen (base := base) (sCap := sCap)
                  (by rw [if_pos (show (Blk.arr ie.size xs dp).live = true from rfl)]; exact ho) (Fy := F) (news := news) l3 l5 l6 l7 l8 (el := el) (zs := ze.cells.size) (cv := cv) (w' := w') k1 e8
                rcases hra with ⟨q1, cap, q2, q3, rest, q4, q5⟩ | ⟨q1, q2, q3⟩ | ⟨q1, q2, g, arr, t', q3, q4, q5, q6⟩
                · obtain ⟨M', R', hv⟩ := core _ _ (.inl ⟨cap, q2, q3, q1, rest, olds, q4, s2, s3, rfl, rfl⟩)
                  exact ⟨_, _, _, _, M', _, kK, q5, R', hv⟩
                · obtain ⟨M', R', hv⟩ := core _ _ (.inr (.inl ⟨q2, by omega, rfl, rfl⟩))
                  exact ⟨_, _, _, _, M', _, kK, q3, R', hv⟩
                · rw [e2] at q5 q6
                  obtain ⟨M', R', hv⟩ := core _ _ (.inr (.inr ⟨q1, q2, g, arr, t', q3, q4, q5, rfl, rfl⟩))
                  exact ⟨_, _, _, _, M', _, kK, q6, R', hv⟩
          · exact H.elim
        · exact H.elim
    · exact H.elim
  · exact H.elim
end
structure ZrW (n : Int) (bytes : Nat) (K : Nat → Prop) : Prop where
  ex : 1 ≤ n ∧ n ≤ 4611686018427387904 ∧ n * bytes ≤ 140737488355328 ∧ K n.toNat
def zrV (tt : TT) (t : Nat) (s : V) (n : Int) (h : List Blk) (K : V → List Blk → Prop) : Prop :=
  match tt t, s with
  | some { kind := .sl el, .. }, .nils => match tt el with
    | some ie => bif Nat.ble 1 ie.size then (match zD ie.zero with
      | some z => ZrW n ie.bytes fun k => K (.own h.length 0 k) (h ++ [.arr ie.size (List.replicate k z) true])
      | none => False) else False
    | none => False
  | _, _ => False
def appW (tt : TT) (t tx : Nat) (s x : V) (e : Env) (h : List Blk) (K : V → Env → List Blk → Prop) : Prop :=
  match tt tx, x with
  | some { kind := .int _, .. }, .d (.int _ n) => zrV tt t s n h fun v h => K v e h
  | _, _ => appV tt t tx s x e h K
section
variable {P : Program} {tt : TT} {B : World} {X : List Nat} {N : Nat} {M : MM} {e : Env} {h : List Blk} {a : Act} {w : World}
theorem zr_sound (hT : TOk P tt) (R : Rep B X N M e h a w) {t tx ty : Nat} {s : V} {cs : Value} {kq kn : IntKind} {n : Int} (hs : rep w M h s cs) (htn : P.underlying tx = some (.int kn)) {K : V → List Blk → Prop} (H : zrV tt t s n h K) :
    ∃ v cv h' M' w', K v h' ∧ (Builtin.append_ #[t, tx] ty #[cs, .int kq n]).run P w = .ok cv w' ∧ Rep B X N M' e h' a w' ∧ rep w' M' h' v cv := by
  unfold zrV at H
  split at H
  · rename_i el sz by' zr eq0 hti
    obtain ⟨fi, d, z, h1, h2, h3, h4, h5, h6, h7, h8, h9⟩ := (hT t _ hti).ex
    cases d <;> first
      | exact (h6 : False).elim
      | skip
    cases (h6 : _ = el)
    split at H
    · rename_i ie hie
      obtain ⟨fe, de, ze, e1, e2, e3, e4, e5, e6, e7, e8, e9⟩ := (hT _ _ hie).ex
      cases hq : Nat.ble 1 ie.size with
      | false => rw [hq] at H; exact H.elim
      | true =>
      rw [hq] at H
      simp only [cond_true] at H
      have hns := Nat.le_of_ble_eq_true hq
      split at H
      · rename_i zd hz
        obtain ⟨⟨k1, k2, k3, H⟩⟩ := H
        cases rep_nils.1 hs
        obtain ⟨k, rfl⟩ : ∃ k : Nat, n = (k : Int) := ⟨n.toNat, by omega⟩
        rw [Int.toNat_natCast] at H
        have zr1 := rep1_cells (e7 w M h)
        obtain ⟨z1, z2⟩ := zD_own _ zd _ hz zr1
        have zsz : ze.cells.toList.length = ie.size := by rw [Array.length_toList]; exact e8
        have zds : zd.size = ie.size := by
          rw [z2, ← repC_len _ _ zr1, zsz]
        have k3' : k * ie.bytes ≤ 140737488355328 := by
          have : ((k * ie.bytes : Nat) : Int) ≤ 140737488355328 := by rw [Int.natCast_mul]; exact k3
          omega
        have hg : 0 < k := by omega
        have hrun := Lib.run_append_grow_zeros (P := P) w t tx ty _ _ _ kq kn h5 htn e1 e4 none 0 0 [] rfl k hg (by rw [e2]; omega) (by omega) (by omega) (by rw [e3]; omega) (by rw [e3]; have := growslice_fits (need := 0 + k) (old := 0) (bytes := ie.bytes) (by omega) (by rw [Nat.zero_add]; exact k3'); exact this)
        have hcapG := grownCap_ge w (0 + k) 0 el
        have hcapM := grownCap_le_maxLen w (0 + k) 0 el (by unfold maxLen; omega)
        generalize grownCap w (0 + k) 0 el = G at hrun hcapG hcapM
        have hat : ∀ i j, i < k → j < ie.size → (#[] ++ Builtin.zeroCells ze.cells k ++ Builtin.zeroCells ze.cells (G - (0 + k)))[i * ie.size + j]? = ze.cells[j]? := fun i j hk hj => by
          have hlt : i * ie.size + j < k * ie.size := by
            have := Nat.mul_le_mul_right ie.size (Nat.succ_le_of_lt hk)
            rw [Nat.succ_mul] at this
            omega
          have hm : (i * ie.size + j) % ze.cells.size = j := by
            rw [e8, Nat.add_comm, Nat.add_mul_mod_self_right, Nat.mod_eq_of_lt hj]
          have hj' : j < ze.cells.size := by omega
          rw [Array.empty_append, Array.getElem?_append_left (by rw [size_zeroCells, e8]; exact hlt)]
          have hm' : j % ie.size = j := Nat.mod_eq_of_lt hj
          simp [Builtin.zeroCells, e8, hlt, hm', getElem!_pos ze.cells j hj']
        have hown : ∀ (m i : Nat), i + m ≤ k → ownDe w (#[] ++ Builtin.zeroCells ze.cells k ++ Builtin.zeroCells ze.cells (G - (0 + k))) ie.size (List.replicate m zd) i [] := by
          intro m
          induction m with
          | zero => intro i _; rfl
          | succ m ih =>
            intro i hi
            refine ⟨[], [], ze.cells.toList, rfl, zds, fun j v hj => ?_, z1, ih (i + 1) (by omega)⟩
            have hjl : j < ie.size := by rw [← zsz]; exact (List.getElem?_eq_some_iff.1 hj).1
            rw [hat i j (by omega) hjl, ← Array.getElem?_toList]
            exact hj
        obtain ⟨M', R', hv⟩ := R.newRow (arr := #[] ++ Builtin.zeroCells ze.cells k ++ Builtin.zeroCells ze.cells (G - (0 + k))) (t := el) (n := ie.size) (cap := G) (xs := List.replicate k zd) (dp := true) (is := []) (ks := []) (F := []) (w1 := w.drew) (Ext.refl w).drew rfl
          (by rw [Array.empty_append, Array.size_append, size_zeroCells, size_zeroCells, e8, ← Nat.add_mul]; congr 1; omega) (by simp; omega) hcapM (by simp) (by simp) (by simp) (by simp)
          (by rw [if_pos rfl]; exact hown k 0 (by omega))
        simp only [dropE, dropK, goneL, set_last, List.length_replicate] at R' hv
        refine ⟨_, _, _, M', _, H, hrun, R', ?_⟩
        rw [Nat.zero_add] at hv ⊢
        exact hv
      · exact H.elim
    · exact H.elim
  · exact H.elim
theorem appW_sound (hT : TOk P tt) (R : Rep B X N M e h a w) {t tx ty : Nat} {s x : V} {cs cx : Value} (hs : rep w M h s cs) (hx : rep w M h x cx) {K : V → Env → List Blk → Prop} (H : appW tt t tx s x e h K) :
    ∃ v cv e' h' M' w', K v e' h' ∧ (Builtin.append_ #[t, tx] ty #[cs, cx]).run P w = .ok cv w' ∧ Rep B X N M' e' h' a w' ∧ rep w' M' h' v cv := by
  unfold appW at H
  split at H
  · rename_i k sz by' zr eq0 kq n hti
    obtain ⟨fi, d, z, h1, h2, h3, h4, h5, h6, h7, h8, h9⟩ := (hT tx _ hti).ex
    cases d <;> first
      | exact (h6 : False).elim
      | skip
    cases (h6 : _ = k)
    obtain ⟨rfl, -⟩ := rep_int.1 hx
    obtain ⟨v, cv, h', M', w', r1, r2, r3, r4⟩ := zr_sound (ty := ty) hT R hs h5 H
    exact ⟨v, cv, e, h', M', w', r1, r2, r3, r4⟩
  · exact app_sound hT R hs hx H
end
def fsOK (tt : TT) : List (Nat × Nat) → Nat → Bool
  | [], _ => true
  | (o, f) :: fs, j => Nat.beq o j && (match tt f with | some i => Nat.beq i.size 1 | none => false) && fsOK tt fs (j + 1)
def zsOf : V → List V
  | .st zs => zs
  | _ => []
def ones : List V → Bool
  | [] => true
  | v :: vs => Nat.beq v.size 1 && ones vs
def gapV (e : Env) : List (Nat × Operand) → List V → List V
  | [], zs => zs
  | (i, x) :: ps, zs => gapV e ps (setN zs i (ev e x))
def gapOK (e : Env) (n : Nat) : List (Nat × Operand) → Bool
  | [] => true
  | (i, x) :: ps => Nat.ble (i + 1) n && (ev e x).okc && Nat.beq (ev e x).size 1 && gapOK e n ps
def buildV (tt : TT) (t : Nat) (ps : List (Nat × Operand)) (e : Env) (K : V → Prop) : Prop :=
  match tt t with
  | some { kind := .strct fs, size := sz, zero := zr, .. } => bif inOrd ps 0 && Nat.beq ps.length fs.length && Nat.beq sz fs.length && fsOK tt fs 0 && sizesB 1 (evs e (partOps ps)) then K (.st (evs e (partOps ps))) else
      bif inOrd ps 0 && Nat.ble ps.length fs.length && Nat.beq sz fs.length && fsOK tt fs 0 && sizesB 1 (evs e (partOps ps)) && Nat.beq (zsOf zr).length fs.length && ones (zsOf zr) then K (.st (evs e (partOps ps) ++ (zsOf zr).drop ps.length)) else
      bif Nat.beq sz fs.length && fsOK tt fs 0 && gapOK e fs.length ps && Nat.beq (zsOf zr).length fs.length && ones (zsOf zr) then K (.st (gapV e ps (zsOf zr))) else False
  | _ => False
theorem fill_congr {p q : Nat → Option (Nat × Nat)} : ∀ (ps : List (Nat × Value)) (cs : Array Value), (∀ x ∈ ps, p x.1 = q x.1) → Instr.fill p cs ps = Instr.fill q cs ps
  | [], cs, _ => rfl
  | (i, v) :: ps, cs, H => by
    simp only [Instr.fill]
    rw [H (i, v) (by simp)]
    cases q i with
    | none => rfl
    | some z =>
      obtain ⟨o, n⟩ := z
      dsimp only
      split
      · rfl
      · exact fill_congr ps _ (fun x hx => H x (by simp [hx]))
theorem places_of {P : Program} {tt : TT} (hT : TOk P tt) : ∀ (gs : List Field) (j : Nat), fsOK tt (gs.map fun f => (f.offset, f.type)) j = true →
    gs.mapM (fun f => (P.info? f.type).map fun i => (f.offset, i.size)) = some ((List.range' j gs.length).map fun i => (i, 1))
  | [], j, _ => rfl
  | g :: gs, j, H => by
    simp only [List.map_cons, fsOK, Bool.and_eq_true, nbeq] at H
    obtain ⟨⟨h1, h2⟩, h3⟩ := H
    have ih := places_of hT gs (j + 1) h3
    cases hi : tt g.type with
    | none => rw [hi] at h2; cases h2
    | some i =>
      rw [hi] at h2
      have h2 : i.size = 1 := by simpa [nbeq] using h2
      obtain ⟨fi, d, z, k1, k2, _⟩ := (hT _ _ hi).ex
      simp only [List.mapM_cons, k1, Option.map_some, Option.bind_eq_bind, Option.bind_some, ih, Option.pure_def, List.length_cons, List.range'_succ, List.map_cons, k2, h2, h1]
section
variable {P : Program} {tt : TT} {B : World} {X : List Nat} {N : Nat} {M : MM} {e : Env} {h : List Blk} {a : Act} {w : World}
theorem repCs_drop1 : ∀ (vs : List V) (cs : List Value) (n : Nat), ones vs = true → repCs w M h vs cs → repCs w M h (vs.drop n) (cs.drop n)
  | [], cs, n, _, H => by
    have H : cs = [] := H
    subst H
    simp only [List.drop_nil]; rfl
  | v :: vs, cs, 0, _, H => H
  | v :: vs, cs, n + 1, ho, H => by
    simp only [ones, Bool.and_eq_true, nbeq] at ho
    obtain ⟨c1, c2, rfl, h1, h2⟩ := H
    have hl := repC_len _ _ h1
    rw [ho.1] at hl
    obtain ⟨x, rfl⟩ := List.length_eq_one_iff.1 hl
    exact repCs_drop1 vs c2 n ho.2 h2
theorem repCs_app : ∀ (us : List V) (cs : List Value) (vs : List V) (ds : List Value), repCs w M h us cs → repCs w M h vs ds → repCs w M h (us ++ vs) (cs ++ ds)
  | [], cs, vs, ds, H, H2 => by
    have H : cs = [] := H
    subst H
    exact H2
  | u :: us, cs, vs, ds, H, H2 => by
    obtain ⟨c1, c2, rfl, h1, h2⟩ := H
    exact ⟨c1, c2 ++ ds, List.append_assoc _ _ _, h1, repCs_app us c2 vs ds h2 H2⟩
theorem repCs_set1 : ∀ (zs : List V) (cs : List Value) (i : Nat) (v : V) (c : Value), ones zs = true → repCs w M h zs cs → i < zs.length → repC w M h v [c] → v.size = 1 → repCs w M h (setN zs i v) (cs.set i c) ∧ ones (setN zs i v) = true ∧ (setN zs i v).length = zs.length
  | [], _, _, _, _, _, _, hi, _, _ => by simp at hi
  | u :: zs, cs, i, v, c, ho, H, hi, hv, hs => by
    simp only [ones, Bool.and_eq_true, nbeq] at ho
    obtain ⟨c1, c2, rfl, h1, h2⟩ := H
    have hl := repC_len _ _ h1
    rw [ho.1] at hl
    obtain ⟨x, rfl⟩ := List.length_eq_one_iff.1 hl
    cases i with
    | zero => exact ⟨⟨[c], c2, rfl, hv, h2⟩, by simp [setN, ones, nbeq, hs, ho.2], rfl⟩
    | succ i =>
      obtain ⟨k1, k2, k3⟩ := repCs_set1 zs c2 i v c ho.2 h2 (by simpa using hi) hv hs
      exact ⟨⟨[x], c2.set i c, rfl, h1, k1⟩, by simp [setN, ones, nbeq, ho.1, k2], by simp [setN, k3]⟩
theorem gap_fill (R : Rep B X N M e h a w) (n : Nat) : ∀ (ps : List (Nat × Operand)) (zs : List V) (cs : List Value), (∀ x ∈ partOps ps, cOK x = true) → gapOK e n ps = true → ones zs = true → zs.length = n → cs.length = n → repCs w M h zs cs →
    ∃ cs' : List Value, Instr.fill (fun i => some (i * 1, 1)) cs.toArray (ps.map fun (i, x) => (i, a.eval x)) = some cs'.toArray ∧ repCs w M h (gapV e ps zs) cs'
  | [], zs, cs, _, _, _, _, _, H => ⟨cs, rfl, H⟩
  | (i, x) :: ps, zs, cs, hc, hg, ho, hz, hcl, H => by
    simp only [gapOK, Bool.and_eq_true, nbeq] at hg
    obtain ⟨⟨⟨g1, g2⟩, g3⟩, g4⟩ := hg
    have g1 := Nat.le_of_ble_eq_true g1
    have hx := rep1_cells (rep1_of_rep g2 (ev_rep R.env x (hc x (by simp [partOps]))))
    have hl := repC_len _ _ hx
    rw [g3] at hl
    obtain ⟨c, hcc⟩ := List.length_eq_one_iff.1 hl
    have hca : (a.eval x).cells = #[c] := by rw [← Array.toList_inj, hcc]
    rw [hcc] at hx
    obtain ⟨k1, k2, k3⟩ := repCs_set1 zs cs i (ev e x) c ho H (by omega) hx g3
    obtain ⟨cs', q1, q2⟩ := gap_fill R n ps (setN zs i (ev e x)) (cs.set i c) (fun y hy => hc y (by simp [partOps, hy])) g4 k2 (by omega) (by simp [hcl]) k1
    refine ⟨cs', ?_, q2⟩
    simp only [List.map_cons, Instr.fill, hca]
    rw [if_neg (by simp; omega), ← q1]
    congr 1
    apply Array.ext'
    simp
theorem build_sound (hT : TOk P tt) (R : Rep B X N M e h a w) {t : Nat} {ps : List (Nat × Operand)} (hc : ∀ x ∈ partOps ps, cOK x = true) {K : V → Prop} (H : buildV tt t ps e K) :
    ∃ v cv, K v ∧ (Instr.build t (ps.map fun (i, x) => (i, a.eval x)).toArray).run P w = .ok cv w ∧ rep w M h v cv := by
  unfold buildV at H
  split at H
  · rename_i fs sz by' zr eq0 hti
    obtain ⟨fi, d, z, h1, h2, h3, h4, h5, h6, h7, h8, h9⟩ := (hT t _ hti).ex
    cases d <;> first
      | exact (h6 : False).elim
      | skip
    rename_i gs
    have h6 : gs.toList.map (fun f => (f.offset, f.type)) = fs := h6
    cases hq : (inOrd ps 0 && Nat.beq ps.length fs.length && Nat.beq sz fs.length && fsOK tt fs 0 && sizesB 1 (evs e (partOps ps))) with
    | false =>
      rw [hq] at H
      simp only [cond_false] at H
      cases hq2 : (inOrd ps 0 && Nat.ble ps.length fs.length && Nat.beq sz fs.length && fsOK tt fs 0 && sizesB 1 (evs e (partOps ps)) && Nat.beq (zsOf zr).length fs.length && ones (zsOf zr)) with
      | false =>
        rw [hq2] at H
        simp only [cond_false] at H
        cases hq3 : (Nat.beq sz fs.length && fsOK tt fs 0 && gapOK e fs.length ps && Nat.beq (zsOf zr).length fs.length && ones (zsOf zr)) with
        | false => rw [hq3] at H; exact H.elim
        | true =>
          rw [hq3] at H
          simp only [cond_true] at H
          simp only [Bool.and_eq_true, nbeq] at hq3
          obtain ⟨⟨⟨⟨q3, q4⟩, q5⟩, q6⟩, q7⟩ := hq3
          have hpl := places_of hT gs.toList 0 (by rw [h6]; exact q4)
          have hgl : gs.toList.length = fs.length := by rw [← h6, List.length_map]
          have hz : z.cells.toList.length = fs.length := by rw [Array.length_toList, h8]; exact q3
          have hzr : repCs w M h (zsOf zr) z.cells.toList := by
            have h7 := h7 w M h
            cases zr with
            | st zs =>
              unfold rep1 at h7
              rw [if_pos (show (V.st zs).isAgg = true from rfl)] at h7
              obtain ⟨cs, rfl, k⟩ := h7
              exact k
            | _ =>
              have : z.cells.toList = [] := List.eq_nil_of_length_eq_zero (by rw [hz, ← q6]; rfl)
              rw [this]
              rfl
          obtain ⟨cs', f1, f2⟩ := gap_fill R fs.length ps (zsOf zr) z.cells.toList hc q5 q7 q6 hz hzr
          have hidx : ∀ (ps : List (Nat × Operand)), gapOK e fs.length ps = true → ∀ x ∈ ps.map fun (i, x) => (i, a.eval x), x.1 < fs.length := by
            intro ps
            induction ps with
            | nil => intro _ x hx; simp at hx
            | cons p ps ih =>
              obtain ⟨i, o⟩ := p
              intro hg x hx
              simp only [gapOK, Bool.and_eq_true] at hg
              simp only [List.map_cons] at hx
              rcases List.mem_cons.1 hx with rfl | hx
              · have := Nat.le_of_ble_eq_true hg.1.1.1
                show i < fs.length
                omega
              · exact ih hg.2 x hx
          have hb : P.built t (ps.map fun (i, x) => (i, a.eval x)).toArray.toList = some cs'.toArray := by
            unfold Program.built
            rw [h1, h5]
            dsimp only
            rw [h4, hpl]
            dsimp only
            rw [fill_congr (q := fun i => some (i * 1, 1))]
            · rw [← f1]
            · intro x hx
              have hx : x ∈ ps.map fun (i, x) => (i, a.eval x) := by simpa using hx
              have hx1 := hidx ps q5 x hx
              rw [hgl]
              simp only [List.getElem?_toArray, List.getElem?_map]
              rw [List.getElem?_range' (by omega)]
              simp
          refine ⟨_, _, H, run_build w t _ _ hb, ?_⟩
          show rep1 w M h (.st _) _
          unfold rep1
          rw [if_pos (show (V.st (gapV e ps (zsOf zr))).isAgg = true from rfl)]
          exact ⟨_, rfl, f2⟩
      | true =>
        rw [hq2] at H
        simp only [cond_true] at H
        simp only [Bool.and_eq_true, nbeq] at hq2
        obtain ⟨⟨⟨⟨⟨⟨q1, q2⟩, q3⟩, q4⟩, q5⟩, q6⟩, q7⟩ := hq2
        have q2 : ps.length ≤ fs.length := Nat.le_of_ble_eq_true q2
        obtain ⟨css, c1, c2, c3⟩ := evs_repC R (partOps ps) hc q5
        have hpl := places_of hT gs.toList 0 (by rw [h6]; exact q4)
        have hgl : gs.toList.length = fs.length := by rw [← h6, List.length_map]
        have hz : z.cells.toList.length = fs.length := by rw [Array.length_toList, h8]; exact q3
        have hzr : repCs w M h (zsOf zr) z.cells.toList := by
          have h7 := h7 w M h
          cases zr with
          | st zs =>
            unfold rep1 at h7
            rw [if_pos (show (V.st zs).isAgg = true from rfl)] at h7
            obtain ⟨cs, rfl, k⟩ := h7
            exact k
          | _ =>
            have : z.cells.toList = [] := List.eq_nil_of_length_eq_zero (by rw [hz, ← q6]; rfl)
            rw [this]
            rfl
        have hfill := fill_row (n := 1) ((partOps ps).map a.eval) 0 [] (z.cells.toList.drop ps.length) (z.cells.toList.take ps.length) (by simp) (fun v hv => by
          have : v.cells.toList ∈ css := by rw [← c1]; exact List.mem_map_of_mem hv
          have := c2 _ this
          rw [Array.length_toList] at this
          exact this) (by simp [partOps_len]; rw [Array.length_toList] at hz; omega)
        rw [List.length_map, partOps_len, ← parts_zip ps 0 q1] at hfill
        rw [c1] at hfill
        simp only [List.nil_append, List.take_append_drop] at hfill
        have hb : P.built t (ps.map fun (i, x) => (i, a.eval x)).toArray.toList = some (css.flatten ++ z.cells.toList.drop ps.length).toArray := by
          unfold Program.built
          rw [h1, h5]
          dsimp only
          rw [h4, hpl]
          dsimp only
          rw [fill_congr (q := fun i => some (i * 1, 1))]
          · rw [← hfill]
          · intro x hx
            have hx : x ∈ ps.map fun (i, x) => (i, a.eval x) := by simpa using hx
            rw [parts_zip ps 0 q1] at hx
            have hx1 := (List.of_mem_zip (a := x.1) (b := x.2) hx).1
            simp only [List.mem_range'_1] at hx1
            rw [hgl]
            simp only [List.getElem?_toArray, List.getElem?_map]
            rw [List.getElem?_range' (by omega)]
            simp
        refine ⟨_, _, H, run_build w t _ _ hb, ?_⟩
        show rep1 w M h (.st _) _
        unfold rep1
        rw [if_pos (show (V.st (evs e (partOps ps) ++ (zsOf zr).drop ps.length)).isAgg = true from rfl)]
        exact ⟨_, rfl, repCs_app _ _ _ _ c3 (repCs_drop1 _ _ _ q7 hzr)⟩
    | true =>
      rw [hq] at H
      simp only [Bool.and_eq_true, nbeq] at hq
      obtain ⟨⟨⟨⟨q1, q2⟩, q3⟩, q4⟩, q5⟩ := hq
      obtain ⟨css, c1, c2, c3⟩ := evs_repC R (partOps ps) hc q5
      have hpl := places_of hT gs.toList 0 (by rw [h6]; exact q4)
      have hgl : gs.toList.length = ps.length := by rw [q2, ← h6, List.length_map]
      have hz : z.cells.toList.length = ps.length := by rw [Array.length_toList, h8]; exact q3.trans q2.symm
      have hfill := fill_row (n := 1) ((partOps ps).map a.eval) 0 [] [] z.cells.toList (by simp) (fun v hv => by
        have : v.cells.toList ∈ css := by rw [← c1]; exact List.mem_map_of_mem hv
        have := c2 _ this
        rw [Array.length_toList] at this
        exact this) (by simp [partOps_len, hz])
      rw [List.length_map, partOps_len, ← parts_zip ps 0 q1] at hfill
      rw [c1] at hfill
      simp only [List.nil_append, List.append_nil] at hfill
      have hb : P.built t (ps.map fun (i, x) => (i, a.eval x)).toArray.toList = some css.flatten.toArray := by
        unfold Program.built
        rw [h1, h5]
        dsimp only
        rw [h4, hpl]
        dsimp only
        rw [fill_congr (q := fun i => some (i * 1, 1))]
        · rw [← hfill]
        · intro x hx
          have hx : x ∈ ps.map fun (i, x) => (i, a.eval x) := by simpa using hx
          rw [parts_zip ps 0 q1] at hx
          have hx1 := (List.of_mem_zip (a := x.1) (b := x.2) hx).1
          simp only [List.mem_range'_1] at hx1
          rw [hgl]
          simp only [List.getElem?_toArray, List.getElem?_map]
          rw [List.getElem?_range' (by omega)]
          simp
      refine ⟨_, _, H, run_build w t _ _ hb, ?_⟩
      show rep1 w M h (.st _) _
      unfold rep1
      rw [if_pos (show (V.st (evs e (partOps ps))).isAgg = true from rfl)]
      exact ⟨_, rfl, c3⟩
  · exact H.elim
end
def pt (d : Option Tmp) (v : V) (e : Env) : Env :=
  match d with
  | some d => (d, v) :: e
  | none => e
def okTs : List V → Bool
  | [] => true
  | v :: vs => v.okc && okTs vs
def modFs : List Nat := [38, 999999]
def modF (f : Nat) : Bool := modFs.any (Nat.beq f)
def isMod (o : Oper) : Bool :=
  match o.op with
  | .store _ _ _ => true
  | .mapUpdate _ _ _ _ => true
  | .call { callee := .builtin .append, .. } => true
  | .call { callee := .value (.func f), .. } => modF f
  | _ => false
structure LtW (k n : Nat) (K : Prop) : Prop where
  ex : k < n ∧ K
def setV (tt : TT) (t : Nat) (p x : V) (e : Env) (h : List Blk) (K : Env → List Blk → Prop) : Prop :=
  match tt t, p with
  | some i, .pL b k [] off => match h[b]? with
    | some (.arr n xs true) => bif Nat.beq off 0 && Nat.beq i.size n && x.okc && Nat.beq x.size n then
        LtW k xs.length (tkV h x fun z is => bif nodupB is && !is.any (Nat.beq b) then K (dropE is e) ((goneL is (dropK is h)).set b (.arr n (xs.set k z) true)) else False)
      else False
    | _ => False
  | _, _ => False
def isWhole : V → V → Bool
  | .pL _ _ [] _, .d x => !x.flat
  | .pL _ _ [] _, .st _ => true
  | .pL _ _ [] _, .own _ _ _ => true
  | .pL _ _ [] _, .nils => true
  | _, _ => false
def loudV (P : Program) (tt : TT) (dr : Bool) (o : Oper) (e : Env) (h : List Blk) (K : V → Env → List Blk → Prop) : Prop :=
  match o.op with
  | .alloc t => allocV tt t h fun v h' => K v e h'
  | .box t x => boxV tt t (ev e x) h fun v h' => K v e h'
  | .store t p x => bif isWhole (ev e p) (ev e x) then setV tt t (ev e p) (ev e x) e h (fun e' h' => K .undef e' h') else storeV tt t (ev e p) (ev e x) h fun h' => K .undef e h'
  | .makeSlice t n c => makeV tt t (ev e n) (ev e c) h fun v h' => K v e h'
  | .makeMap t none => makeMapV tt t h fun v h' => K v e h'
  | .mapUpdate t m k x => mapV tt t (ev e m) (ev e k) (ev e x) h fun h' => K .undef e h'
  | .buildSlice t n ⟨ps⟩ => litV tt t n ps e h K
  | .build t ⟨ps⟩ => buildV tt t ps e fun v => K v e h
  | .call { callee := .builtin .append, args := ⟨[s, x]⟩, argTypes := ⟨[t, tx]⟩ } => appW tt t tx (ev e s) (ev e x) e h K
  | .call { callee := .value f, args := ⟨xs⟩, .. } => match ev e f with
    | .fn (.func fid) caps => bif okTs (evs e xs) && capsOK caps then CallW P (dr && !isMod o) fid (evs e xs ++ caps) e h K else False
    | .d (.fnv (.func fid)) => bif okTs (evs e xs) then CallW P (dr && !isMod o) fid (evs e xs ++ []) e h K else False
    | _ => False
  | _ => False
section
variable {P : Program} {tt : TT} {B : World} {X : List Nat} {N : Nat} {M : MM} {e : Env} {h : List Blk} {a : Act} {w : World}
theorem gt_cons (k : Nat) (v : V) (e : Env) (i : Nat) : gt ((k, v) :: e) i = if k = i then v else gt e i := by
  show (bif Nat.beq k i then v else gt e i) = _
  by_cases hk : k = i
  · subst hk; simp
  · rw [if_neg hk]
    have : Nat.beq k i = false := by
      cases hb : Nat.beq k i with
      | false => rfl
      | true => exact absurd (Nat.eq_of_beq_eq_true hb) hk
    rw [this]; rfl
theorem Rep.put (R : Rep B X N M e h a w) {d : Option Tmp} (hd : ∀ k, d = some k → k < N) {v : V} {cv : Value} (hv : rep w M h v cv) : Rep B X N M (pt d v e) h (a.put d cv) w := by
  cases d with
  | none => exact R
  | some d =>
    have hlt : d < a.tmps.size := by rw [R.sz]; exact hd d rfl
    refine ⟨R.ext, R.inv, fun k => ?_, by simp [Act.put, R.sz], R.df, R.fr, R.fh⟩
    show rep w M h (gt ((d, v) :: e) k) _
    rw [gt_cons]
    by_cases hk : d = k
    · subst hk
      rw [if_pos rfl]
      simp only [Act.put, Array.getD_eq_getD_getElem?]
      rw [Array.getElem?_setIfInBounds_self_of_lt hlt]
      exact hv
    · rw [if_neg hk]
      have := R.env k
      simp only [Act.put, Array.getD_eq_getD_getElem?] at this ⊢
      rw [Array.getElem?_setIfInBounds_ne hk]
      exact this
theorem Rep.know (R : Rep B X N M e h a w) {d : Nat} {v : V} (hv : rep w M h v (a.tmps.getD d Go.undef)) : Rep B X N M ((d, v) :: e) h a w :=
  ⟨R.ext, R.inv, fun k => by
    rw [gt_cons]
    by_cases hk : d = k
    · subst hk; rw [if_pos rfl]; exact hv
    · rw [if_neg hk]; exact R.env k, R.sz, R.df, R.fr, R.fh⟩
theorem evs_repT (R : Rep B X N M e h a w) : ∀ (xs : List Operand), (∀ x ∈ xs, cOK x = true) → okTs (evs e xs) = true → repT w M h (evs e xs) (xs.map a.eval)
  | [], _, _ => rfl
  | x :: xs, hc, ho => by
    simp only [evs, okTs, Bool.and_eq_true] at ho
    exact ⟨a.eval x, xs.map a.eval, rfl, rep1_of_rep ho.1 (ev_rep R.env x (hc x (by simp))), evs_repT R xs (fun y hy => hc y (by simp [hy])) ho.2⟩
theorem repT_app : ∀ (vs : List V) (cs : List Value) (us : List V) (ds : List Value), repT w M h vs cs → repT w M h us ds → repT w M h (vs ++ us) (cs ++ ds)
  | [], cs, us, ds, H, H' => by cases H; exact H'
  | v :: vs, cs, us, ds, H, H' => by
    obtain ⟨c, cs', rfl, h1, h2⟩ := H
    exact ⟨c, cs' ++ ds, rfl, h1, repT_app vs cs' us ds h2 H'⟩
theorem repT_caps : ∀ (vs : List V) (cs : List Value), capsOK vs = true → repK w M h vs cs → repT w M h vs cs
  | [], cs, _, H => H
  | v :: vs, cs, ho, H => by
    simp only [capsOK, Bool.and_eq_true, Bool.not_eq_true'] at ho
    obtain ⟨c, cs', rfl, h1, h2⟩ := H
    refine ⟨c, cs', rfl, ?_, repT_caps vs cs' ho.2 h2⟩
    unfold rep1
    rw [if_neg (by rw [ho.1.2]; simp)]
    exact h1
theorem set_sound (hT : TOk P tt) (R : Rep B X N M e h a w) {t : Nat} {p x : V} {cp cx : Value} (hp : rep w M h p cp) (hx : rep w M h x cx) {K : Env → List Blk → Prop} (H : setV tt t p x e h K) :
    ∃ e' h' M' w', K e' h' ∧ (Instr.storeAt t cp cx).run P w = .ok () w' ∧ Rep B X N M' e' h' a w' := by
  unfold setV at H
  split at H
  · rename_i i b k off hi
    obtain ⟨g, F, hM, rfl⟩ := rep_pL.1 hp
    split at H
    · rename_i n xs hc
      cases hq : (Nat.beq off 0 && Nat.beq i.size n && x.okc && Nat.beq x.size n) with
      | false => rw [hq] at H; exact H.elim
      | true =>
        rw [hq] at H
        simp only [Bool.and_eq_true, nbeq] at hq
        obtain ⟨⟨⟨rfl, q2⟩, q3⟩, q4⟩ := hq
        simp only [cond_true] at H
        obtain ⟨⟨hk, H⟩⟩ := H
        have hn0 : nOf h b = n := by simp [nOf, hc]
        have hxc := rep1_cells (rep1_of_rep q3 hx)
        obtain ⟨z, is, Fz, kK, z1, z2, z3, z4, z5⟩ := tk_sound R.inv x _ _ H hxc
        cases hqi : (nodupB is && !is.any (Nat.beq b)) with
        | false => rw [hqi] at kK; exact kK.elim
        | true =>
          rw [hqi] at kK
          simp only [cond_true] at kK
          simp only [Bool.and_eq_true, Bool.not_eq_true', List.any_eq_false] at hqi
          have hbi : b ∉ is := fun hi => hqi.2 b hi (Nat.beq_refl b)
          have hFz := z3 (nodupB_spec is hqi.1)
          have hb0 : b ≠ 0 := fun e0 => by
            subst e0
            rw [R.fh] at hc
            cases hc
          obtain ⟨arr, t', hg, hsz, hel⟩ := R.inv.blk b _ _ hc hM
          rw [if_pos rfl] at hel
          have hlx := repC_len x _ hxc
          rw [Array.length_toList] at hlx
          have hkn : (k + 1) * n ≤ xs.length * n := Nat.mul_le_mul_right _ hk
          rw [Nat.succ_mul] at hkn
          have e1 : arr.toList = arr.toList.take (k * n) ++ (arr.toList.drop (k * n)).take n ++ arr.toList.drop (k * n + n) := split3 _ _ _
          have hrun := run_store_row (P := P) (hT t i hi) hg (cx := cx) (by omega) (repC_one x _ hxc) e1 (o := k * n) (by simp; omega) (by simp; omega)
          have hsz2 : (arr.toList.take (k * n) ++ cx.cells.toList ++ arr.toList.drop (k * n + n)).toArray.size = arr.size := by simp; omega
          have hget : ∀ j, (arr.toList.take (k * n) ++ cx.cells.toList ++ arr.toList.drop (k * n + n)).toArray[j]? = if k * n ≤ j ∧ j < k * n + n then cx.cells.toList[j - k * n]? else arr[j]? := by
            intro j
            rw [List.getElem?_toArray, List.append_assoc]
            have ht : (arr.toList.take (k * n)).length = k * n := by simp; omega
            by_cases j1 : j < k * n
            · rw [List.getElem?_append_left (by omega), if_neg (by omega), List.getElem?_take, if_pos j1, Array.getElem?_toList]
            · rw [List.getElem?_append_right (by omega), ht]
              by_cases j2 : j < k * n + n
              · rw [List.getElem?_append_left (by simp; omega), if_pos ⟨by omega, j2⟩]
              · rw [List.getElem?_append_right (by simp; omega), if_neg (by omega), List.getElem?_drop, Array.getElem?_toList]
                congr 1
                simp
                omega
          have key : ∃ F1 F2 F3, F = F1 ++ F2 ++ F3 ∧ ownDe w (arr.toList.take (k * n) ++ cx.cells.toList ++ arr.toList.drop (k * n + n)).toArray n (xs.set k z) 0 (F1 ++ Fz ++ F3) := by
            have hsplit : xs = xs.take k ++ xs.drop k := (List.take_append_drop k xs).symm
            have htl : (xs.take k).length = k := by simp; omega
            have hd : xs.drop k = xs[k] :: xs.drop (k + 1) := List.drop_eq_getElem_cons hk
            rw [hsplit, hd] at hel
            obtain ⟨F1, F23, rfl, m1, F2, F3, ces, rfl, m2, m3, m4, m5⟩ := (ownDe_app _ _ _ _).1 hel
            refine ⟨F1, F2, F3, by simp, ?_⟩
            have hset : xs.set k z = xs.take k ++ z :: xs.drop (k + 1) := by
              rw [List.set_eq_take_append_cons_drop, if_pos hk]
            rw [hset]
            rw [show F1 ++ Fz ++ F3 = F1 ++ (Fz ++ F3) from List.append_assoc _ _ _]
            refine (ownDe_app _ _ _ _).2 ⟨F1, Fz ++ F3, rfl, ownDe_at _ 0 0 F1 (fun c hc' j hj => ?_) m1, Fz, F3, cx.cells.toList, rfl, by rw [z2]; exact q4, fun j v hj => ?_, z1, ownDe_at _ _ _ F3 (fun c hc' j hj => ?_) m5⟩
            · rw [htl] at hc'
              have := Nat.mul_le_mul_right n (Nat.succ_le_of_lt hc')
              rw [Nat.succ_mul] at this
              rw [hget, Nat.zero_add, if_neg (by omega)]
            · have hjl : j < n := by
                have := (List.getElem?_eq_some_iff.1 hj).1
                rw [Array.length_toList] at this
                omega
              rw [htl, Nat.zero_add, hget, if_pos (by omega)]
              rw [show k * n + j - k * n = j by omega]; exact hj
            · rw [htl, Nat.zero_add, hget, if_neg]
              rw [Nat.add_mul, Nat.succ_mul]
              omega
          obtain ⟨F1, F2, F3, rfl, key⟩ := key
          have hnd := mO_nodup' R.inv hM
          have hlo := R.inv.lo b _ _ hc hM rfl g (by simp [mO])
          have hgn := (List.nodup_cons.1 hnd).1
          have hFn := (List.nodup_cons.1 hnd).2
          have hzd : ∀ x ∈ Fz, x ≠ g ∧ x ∉ F1 ++ F2 ++ F3 := fun x hx => by
            obtain ⟨i, hi, m, hm, hxm⟩ := z4 x hx
            refine ⟨fun e0 => ?_, fun hF => ?_⟩
            · subst e0
              have := O_block_inj R.inv hM hm (by simp [mO]) hxm
              subst this
              exact hbi hi
            · have := O_block_inj R.inv hM hm (by simp only [mO, List.mem_cons]; exact .inr hF) hxm
              subst this
              exact hbi hi
          have hFm : ∀ x ∈ F1 ++ Fz ++ F3, x ∈ F1 ++ F2 ++ F3 ∨ x ∈ Fz := fun x hx => by
            simp only [List.mem_append] at hx ⊢
            rcases hx with (hx | hx) | hx
            · exact .inl (.inl (.inl hx))
            · exact .inr hx
            · exact .inl (.inr hx)
          have hislv : ∀ i ∈ is, ∀ k, h[i]? = some k → k.live = true := fun i hi k hk => by
            obtain ⟨n1, xs1, h1⟩ := z5 i hi
            rw [h1] at hk
            cases hk
            rfl
          have hnof : nOf (h.set b (.arr n (xs.set k z) true)) b = nOf h b := by
            unfold nOf
            rw [List.getElem?_set_self (List.getElem?_eq_some_iff.1 hc).1, hc]
          obtain ⟨M', R', _, _⟩ := R.reset (ext_setRow R.ext hlo (arr.toList.take (k * n) ++ cx.cells.toList ++ arr.toList.drop (k * n + n)).toArray) hM hb0 hc (.inl rfl) is is
            (fun hi => by
              obtain ⟨n1, xs1, h1⟩ := z5 0 hi
              rw [R.fh] at h1
              cases h1) hbi (fun _ h => h) hislv (m' := some (g, F1 ++ Fz ++ F3))
            (List.nodup_cons.2 ⟨fun hm => by
              rcases hFm g hm with h1 | h1
              · exact hgn h1
              · exact (hzd g h1).1 rfl, by
              have n13 : (F1 ++ F3).Nodup := by
                have := hFn
                rw [List.append_assoc] at this
                have a1 := (List.nodup_append.1 this).1
                have a2 := (List.nodup_append.1 (List.nodup_append.1 this).2.1).2.1
                exact List.nodup_append.2 ⟨a1, a2, fun x hx y hy e0 => (List.nodup_append.1 this).2.2 x hx y (by simp [hy]) e0⟩
              have a1 := (List.nodup_append.1 n13).1
              have a2 := (List.nodup_append.1 n13).2.1
              have a3 := (List.nodup_append.1 n13).2.2
              refine List.nodup_append.2 ⟨List.nodup_append.2 ⟨a1, hFz, fun x hx y hy e0 => ?_⟩, a2, fun x hx y hy e0 => ?_⟩
              · subst e0; exact (hzd x hy).2 (by simp [hx])
              · subst e0
                rcases List.mem_append.1 hx with hx | hx
                · exact a3 x hx x hy rfl
                · exact (hzd x hx).2 (by simp [hy])⟩)
            (fun x hx => by
              rcases List.mem_cons.1 hx with rfl | hx
              · exact .inl (by simp [mO])
              · rcases hFm x hx with h1 | h1
                · exact .inl (by simp only [mO, List.mem_cons]; exact .inr h1)
                · exact .inr (.inl (z4 x h1)))
            (fun x hx => by
              rw [setRow_size]
              rcases List.mem_cons.1 hx with rfl | hx
              · exact lt_of_heap hg
              · rcases hFm x hx with h1 | h1
                · exact R.inv.hi x (mem_O hM (by simp only [mO, List.mem_cons]; exact .inr h1))
                · obtain ⟨i, hi, m, hm, hxm⟩ := z4 x h1
                  exact R.inv.hi x (mem_O hm hxm)) (by rw [setRow_size]; exact Nat.le_refl _)
            (fun x hlt hx => setRow_other (fun e0 => hx (by subst e0; simp [mO])) _) (k' := .arr n (xs.set k z) true) rfl
            (fun _ g1 F1' hm => by
              cases hm
              refine ⟨⟨_, rfl⟩, hnof, fun arr1 t1 h1 => ?_⟩
              rw [hg] at h1
              cases h1
              exact ⟨_, setRow_at hg _, hsz2⟩)
            (fun M' h' _ => by
              refine ⟨_, _, setRow_at hg _, by rw [List.length_set, hsz2]; exact hsz, ?_⟩
              rw [if_pos rfl]
              refine ownDe_mv _ _ _ _ _ (fun x hx => setRow_other (fun e0 => ?_) _) key
              subst e0
              rcases hFm x hx with h1 | h1
              · exact hgn h1
              · exact (hzd x h1).1 rfl)
          rw [hn0, Nat.add_zero]
          exact ⟨_, _, M', _, kK, hrun, R'⟩
    · exact H.elim
  · exact H.elim
theorem partOps_mem : ∀ (ps : List (Nat × Operand)) (x : Operand), x ∈ partOps ps → ∃ i, (i, x) ∈ ps
  | (i, y) :: ps, x, h => by
    rcases List.mem_cons.1 h with rfl | h
    · exact ⟨i, by simp⟩
    · obtain ⟨j, hj⟩ := partOps_mem ps x h
      exact ⟨j, by simp [hj]⟩
theorem loud_sound (hT : TOk P tt) (R : Rep B X N M e h a w) {o : Oper} (hc : ∀ x ∈ o.op.operands, cOK x = true) {K : V → Env → List Blk → Prop} {dr : Bool} (H : loudV P tt dr o e h K) (Q : Exit → Act → World → Prop)
    (K' : Act → World → Prop) (hK : ∀ v cv e' h' M' w', K v e' h' → Rep B X N M' e' h' a w' → rep w' M' h' v cv → (isMod o = false → dr = true → Ext w w') → K' (a.put o.dst cv) w') : Oper.wp P o a w K' Q := by
  have hev : ∀ x ∈ o.op.operands, rep w M h (ev e x) (a.eval x) := fun x hx => ev_rep R.env x (hc x hx)
  obtain ⟨dst, op, type, pos, after, guard⟩ := o
  dsimp only at hc hev
  unfold loudV at H
  unfold Oper.wp
  cases op with
  | alloc t =>
    obtain ⟨v, cv, h', M', w', k1, k2, k3, k4, k5⟩ := alloc_sound hT R H
    simp only [execOp, Sem.run_bind, k2, Result.andThen_ok, Sem.run_pure, Oper.upon]
    exact hK _ _ _ _ _ _ k1 k4 k5 (fun _ _ => k3)
  | box t x =>
    obtain ⟨v, cv, h', M', w', k1, k2, k3, k4, k5⟩ := box_sound hT R (hev x (by simp [Op.operands])) H
    simp only [execOp, Sem.run_bind, k2, Result.andThen_ok, Sem.run_pure, Oper.upon]
    exact hK _ _ _ _ _ _ k1 k4 k5 (fun _ _ => k3)
  | store t p x =>
    cases hwh : isWhole (ev e p) (ev e x) with
    | false =>
      have H : storeV tt t (ev e p) (ev e x) h (fun h' => K .undef e h') := by
        have := H
        dsimp only at this
        rw [hwh] at this
        exact this
      obtain ⟨h', w', k1, k2, k3⟩ := store_sound hT R (hev p (by simp [Op.operands])) (hev x (by simp [Op.operands])) H
      simp only [execOp, Sem.run_bind, k2, Result.andThen_ok, Sem.run_pure, Oper.upon]
      exact hK _ _ _ _ _ _ k1 k3 rfl (fun q => by cases q)
    | true =>
      have H : setV tt t (ev e p) (ev e x) e h (fun e' h' => K .undef e' h') := by
        have := H
        dsimp only at this
        rw [hwh] at this
        exact this
      obtain ⟨e', h', M', w', k1, k2, k3⟩ := set_sound hT R (hev p (by simp [Op.operands])) (hev x (by simp [Op.operands])) H
      simp only [execOp, Sem.run_bind, k2, Result.andThen_ok, Sem.run_pure, Oper.upon]
      exact hK _ _ _ _ _ _ k1 k3 rfl (fun q => by cases q)
  | makeMap t r =>
    cases r with
    | some r => exact H.elim
    | none =>
      obtain ⟨v, cv, h', M', w', k1, k2, k3, k4, k5⟩ := makeMap_sound hT R H
      simp only [execOp, Sem.run_bind, Option.map_none, k2, Result.andThen_ok, Sem.run_pure, Oper.upon]
      exact hK _ _ _ _ _ _ k1 k4 k5 (fun _ _ => k3)
  | mapUpdate t m k x =>
    obtain ⟨h', w', k1, k2, k3⟩ := map_sound hT R (hev m (by simp [Op.operands])) (hev k (by simp [Op.operands])) (hev x (by simp [Op.operands])) H
    simp only [execOp, Sem.run_bind, k2, Result.andThen_ok, Sem.run_pure, Oper.upon]
    exact hK _ _ _ _ _ _ k1 k3 rfl (fun q => by cases q)
  | makeSlice t n c =>
    obtain ⟨v, cv, h', M', w', k1, k2, k3, k4, k5⟩ := make_sound hT R (hev n (by simp [Op.operands])) (hev c (by simp [Op.operands])) H
    simp only [execOp, Sem.run_bind, k2, Result.andThen_ok, Sem.run_pure, Oper.upon]
    exact hK _ _ _ _ _ _ k1 k4 k5 (fun _ _ => k3)
  | buildSlice t n ps =>
    obtain ⟨ps⟩ := ps
    obtain ⟨v, cv, e', h', M', w', k1, k2, k3, k4, k5⟩ := lit_sound hT R (fun x hx => hc x (by
      obtain ⟨i, hi⟩ := partOps_mem ps x hx
      simp only [Op.operands]
      simp only [List.mem_toArray, List.mem_map]
      exact ⟨(i, x), hi, rfl⟩)) H
    have k2' : (Instr.buildSlice t n (Array.map (fun (i, x) => (i, a.eval x)) ps.toArray)).run P w = .ok cv w' := by
      rw [← k2]; simp
    simp only [execOp, Sem.run_bind, k2', Result.andThen_ok, Sem.run_pure, Oper.upon]
    exact hK _ _ _ _ _ _ k1 k4 k5 (fun _ _ => k3)
  | build t ps =>
    obtain ⟨ps⟩ := ps
    obtain ⟨v, cv, k1, k2, k3⟩ := build_sound hT R (fun x hx => hc x (by
      obtain ⟨i, hi⟩ := partOps_mem ps x hx
      simp only [Op.operands]
      simp only [List.mem_toArray, List.mem_map]
      exact ⟨(i, x), hi, rfl⟩)) H
    have k2' : (Instr.build t (Array.map (fun (i, x) => (i, a.eval x)) ps.toArray)).run P w = .ok cv w := by
      rw [← k2]; simp
    simp only [execOp, Sem.run_bind, k2', Result.andThen_ok, Sem.run_pure, Oper.upon]
    exact hK _ _ _ _ _ _ k1 R k3 (fun _ _ => Ext.refl _)
  | call c =>
    obtain ⟨callee, args, ats⟩ := c
    obtain ⟨xs⟩ := args
    cases callee with
    | builtin b =>
      cases b <;> first
        | exact H.elim
        | skip
      obtain ⟨ats⟩ := ats
      rcases xs with _ | ⟨s, _ | ⟨x, _ | ⟨y, ys⟩⟩⟩ <;> first
        | exact H.elim
        | skip
      rcases ats with _ | ⟨t, _ | ⟨tx, _ | ⟨ty, ts⟩⟩⟩ <;> first
        | exact H.elim
        | skip
      obtain ⟨v, cv, e', h', M', w', k1, k2, k3, k4⟩ := appW_sound (P := P) (ty := type) hT R (hev s (by simp [Op.operands, Call.operands])) (hev x (by simp [Op.operands, Call.operands])) H
      have hexec : (execOp a.eval ⟨dst, .call { callee := .builtin .append, args := ⟨[s, x]⟩, argTypes := ⟨[t, tx]⟩ }, type, pos, after, guard⟩).run P w = .ok (.value cv) w' := by
        simp [execOp, resolve, invoke, builtin, k2]
      rw [hexec]
      exact hK _ _ _ _ _ _ k1 k3 k4 (fun q => by cases q)
    | invoke f => exact H.elim
    | value f =>
      dsimp only at H
      have hf := hev f (by simp [Op.operands, Call.operands])
      generalize hmo : isMod ⟨dst, .call { callee := .value f, args := ⟨xs⟩, argTypes := ats }, type, pos, after, guard⟩ = mo at H hK
      have key : ∀ (fid : FuncId) (caps : List V), rep w M h (.fn (.func fid) caps) (a.eval f) → (bif okTs (evs e xs) && capsOK caps then CallW P (dr && !mo) fid (evs e xs ++ caps) e h K else False) →
          Oper.wp P ⟨dst, .call { callee := .value f, args := ⟨xs⟩, argTypes := ats }, type, pos, after, guard⟩ a w K' Q := by
        intro fid caps hf H
        unfold Oper.wp
        cases hok : (okTs (evs e xs) && capsOK caps) with
        | false => rw [hok] at H; exact H.elim
        | true =>
          rw [hok] at H
          simp only [Bool.and_eq_true] at hok
          simp only [cond_true] at H
          obtain ⟨cvs, e1, hcaps⟩ := rep_fn.1 hf
          obtain ⟨⟨fn, f1, f2, f3⟩, hcall⟩ := callW_sound R (repT_app _ _ _ _ (evs_repT R xs (fun x hx => hc x (by simp [Op.operands, Call.operands, hx])) hok.1) (repT_caps caps cvs hok.2 hcaps)) H
          have hexec : (execOp a.eval ⟨dst, .call { callee := .value f, args := ⟨xs⟩, argTypes := ats }, type, pos, after, guard⟩).run P w = .ok (.enter fid (xs.map a.eval ++ cvs).toArray) w := by
            have hcf : ∀ args, (callFunc fid args).run P w = .ok (.enter fid args) w := fun args => by
              unfold callFunc
              simp only [Sem.run_bind, run_program, Result.andThen_ok, f1, f2, f3, Bool.false_eq_true, if_false, Sem.run_pure]
            simp only [execOp, resolve, e1, Deferred.ofValue, invoke, Sem.run_bind, Sem.run_pure, Result.andThen_ok, hcf]
            simp
          rw [hexec]
          show Calls _ _ _ _ _
          refine hcall.mono ?_
          rintro en w' ⟨v, cv, e', h', M', rfl, k1, k2, k3, k4⟩
          exact hK _ _ _ _ _ _ k1 k3 k4 (fun q1 q2 => k2 (by rw [q1, q2]; rfl))
      split at H
      · rename_i fid caps hq
        rw [hq] at hf
        exact key fid caps hf H
      · rename_i fid hq
        rw [hq] at hf
        have e1 : a.eval f = .func (.func fid) #[] #[] := by
          have hf : rep1 w M h (.d (.fnv (.func fid))) (a.eval f) := hf
          unfold rep1 at hf
          rw [if_neg (by simp [V.isAgg, D.agg])] at hf
          have : [a.eval f] = [Value.func (.func fid) #[] #[]] := hf
          simpa using this
        refine key fid [] (rep_fn.2 ⟨[], e1, rfl⟩) ?_
        simpa [capsOK] using H
      · exact H.elim
  | _ => exact H.elim
end
def V.force (v : V) (K : V → Prop) : Prop :=
  match v with
  | .top => K .top
  | .undef => K .undef
  | .d x => K (.d x)
  | .nils => K .nils
  | .nilp => K .nilp
  | .own b o n => K (.own b o n)
  | .pB b z o => K (.pB b z o)
  | .pL b i z o => K (.pL b i z o)
  | .pX x => K (.pX x)
  | .fn f c => K (.fn f c)
  | .st fs => K (.st fs)
  | .tup vs => K (.tup vs)
theorem V.force_iff {v : V} {K : V → Prop} : v.force K ↔ K v := by cases v <;> exact Iff.rfl
def hforce : List Blk → (List Blk → Prop) → Prop
  | [], K => K []
  | b :: r, K => match b with
    | .arr n xs dp => hforce r fun r => K (.arr n xs dp :: r)
    | .box v => v.force fun v => hforce r fun r => K (.box v :: r)
    | .gone => hforce r fun r => K (.gone :: r)
    | .gho c s g sz t => hforce r fun r => K (.gho c s g sz t :: r)
    | .pin c g sz t => hforce r fun r => K (.pin c g sz t :: r)
    | .keep e f => hforce r fun r => K (.keep e f :: r)
    | .bld T E bs => hforce r fun r => K (.bld T E bs :: r)
    | .mp tg es => hforce r fun r => K (.mp tg es :: r)
theorem hforce_iff : ∀ (h : List Blk) (K : List Blk → Prop), hforce h K ↔ K h
  | [], K => Iff.rfl
  | b :: r, K => by
    cases b with
    | box v => exact (V.force_iff (v := v) (K := fun v => hforce r fun r => K (.box v :: r))).trans (hforce_iff r fun r => K (.box v :: r))
    | arr _ _ _ => exact hforce_iff r _
    | gone => exact hforce_iff r _
    | gho _ _ _ _ _ => exact hforce_iff r _
    | pin _ _ _ _ => exact hforce_iff r _
    | keep _ _ => exact hforce_iff r _
    | bld _ _ _ => exact hforce_iff r _
    | mp _ _ => exact hforce_iff r _
def runV (P : Program) (tt : TT) (dr : Bool) (o : Oper) (e : Env) (h : List Blk) (K : Env → List Blk → Prop) : Prop :=
  bif isQuiet o then quietV tt o e h (fun v => v.force fun v => K (pt o.dst v e) h) else loudV P tt dr o e h (fun v e' h' => hforce h' fun h' => v.force fun v => K (pt o.dst v e') h')
def guardV (l : List Oper) (o : Oper) (e : Env) (A S : Env → Prop) : Prop :=
  match o.guard with
  | none => A e
  | some (j, b) => match l[j]? with
    | some oj => match oj.dst with
      | some d => match gt e d with
        | .d (.bool c) => bif b then BIf c (A ((d, .d (.bool true)) :: e)) (S ((d, .d (.bool false)) :: e)) else BIf c (S ((d, .d (.bool true)) :: e)) (A ((d, .d (.bool false)) :: e))
        | .undef => S e
        | _ => False
      | none => False
    | none => False
def stepV (P : Program) (tt : TT) (dr : Bool) (l : List Oper) (i : Nat) (K : Env → List Blk → Prop) (e : Env) (h : List Blk) : Prop :=
  match l[i]? with
  | some o => guardV l o e (fun e => runV P tt dr o e h K) (fun e => K (pt o.dst .undef e) h)
  | none => False
def seqV (P : Program) (tt : TT) (dr : Bool) (l : List Oper) : List Nat → (Env → List Blk → Prop) → Env → List Blk → Prop
  | [], K, e, h => K e h
  | i :: is, K, e, h => stepV P tt dr l i (seqV P tt dr l is K) e h
def opB (N : Nat) (o : Oper) : Bool :=
  o.op.operands.toList.all cOK && (match o.dst with | some d => Nat.ble (d + 1) N | none => true)
def opsB (N : Nat) (l : List Oper) : Bool := l.all (opB N)
section
variable {P : Program} {tt : TT} {B : World} {X : List Nat} {N : Nat} {M : MM} {e : Env} {h : List Blk} {a : Act} {w : World} {l : List Oper}
theorem opB_c {o : Oper} (h : opB N o = true) : (∀ x ∈ o.op.operands, cOK x = true) ∧ ∀ k, o.dst = some k → k < N := by
  simp only [opB, Bool.and_eq_true, List.all_eq_true] at h
  refine ⟨fun x hx => h.1 x (by simpa using hx), fun k hk => ?_⟩
  have := h.2
  rw [hk] at this
  exact Nat.le_of_ble_eq_true this
theorem opsB_c (h : opsB N l = true) {i : Nat} {o : Oper} (hi : l[i]? = some o) : opB N o = true := List.all_eq_true.1 h o (List.mem_of_getElem? hi)
theorem guard_sound (R : Rep B X N M e h a w) {i : Nat} {o : Oper} {A S : Env → Prop} (H : guardV l o e A S) :
    ∃ e', Rep B X N M e' h a w ∧ ((Region.wanted o (yielded l.toArray a.tmps) = true ∧ A e') ∨ (Region.wanted o (yielded l.toArray a.tmps) = false ∧ S e')) := by
  unfold guardV at H
  split at H
  · rename_i hg
    exact ⟨e, R, .inl ⟨by simp [Region.wanted, hg], H⟩⟩
  · rename_i j b hg
    split at H
    · rename_i oj hj
      split at H
      · rename_i d hd
        have hy : ∀ c, a.tmps.getD d Go.undef = .bool c → yielded l.toArray a.tmps j = some c := by
          intro c hc
          unfold yielded
          have h1 : (l.toArray[j]?).bind (·.dst) = some d := by simp [hj, hd]
          rw [h1]
          simp only [Option.bind_some]
          have : a.tmps[d]? = some (.bool c) := by
            rw [Array.getD_eq_getD_getElem?] at hc
            cases hx : a.tmps[d]? with
            | none => rw [hx] at hc; cases hc
            | some v => rw [hx] at hc; simp at hc; rw [hc]
          rw [this]
        have hu : a.tmps.getD d Go.undef = Go.undef → yielded l.toArray a.tmps j = none := by
          intro hc
          unfold yielded
          have h1 : (l.toArray[j]?).bind (·.dst) = some d := by simp [hj, hd]
          rw [h1]
          simp only [Option.bind_some]
          rw [Array.getD_eq_getD_getElem?] at hc
          cases hx : a.tmps[d]? with
          | none => rfl
          | some v => rw [hx] at hc; simp at hc; rw [hc]; rfl
        have hE := R.env d
        split at H
        · rename_i c hc
          rw [hc] at hE
          have hE' := rep_bool.1 hE
          have hw : Region.wanted o (yielded l.toArray a.tmps) = (some c == some b) := by simp only [Region.wanted, hg, hy c hE']
          have R' : ∀ q, c = q → Rep B X N M ((d, .d (.bool q)) :: e) h a w := fun q hq => R.know (rep_bool.2 (by rw [hE', hq]))
          cases b with
          | true =>
            refine BIf.elim H (fun hc H => ⟨_, R' true hc, .inl ⟨by rw [hw, hc]; rfl, H⟩⟩) (fun hc H => ⟨_, R' false hc, .inr ⟨by rw [hw, hc]; rfl, H⟩⟩)
          | false =>
            refine BIf.elim H (fun hc H => ⟨_, R' true hc, .inr ⟨by rw [hw, hc]; rfl, H⟩⟩) (fun hc H => ⟨_, R' false hc, .inl ⟨by rw [hw, hc]; rfl, H⟩⟩)
        · rename_i hc
          rw [hc] at hE
          exact ⟨e, R, .inr ⟨by simp only [Region.wanted, hg, hu hE]; rfl, H⟩⟩
        · exact H.elim
      · exact H.elim
    · exact H.elim
theorem seq_sound (hT : TOk P tt) (hl : opsB N l = true) {K : Env → List Blk → Prop} {Q : Exit → Act → World → Prop} (hQ : ∀ e h M a w, K e h → Rep B X N M e h a w → Q .normal a w) :
    ∀ (is : List Nat) (M : MM) (e : Env) (h : List Blk) (a : Act) (w : World), seqV P tt false l is K e h → Rep B X N M e h a w → wpOps P l.toArray Q is a w
  | [], M, e, h, a, w, H, R => hQ e h M a w H R
  | i :: is, M, e, h, a, w, H, R => by
    rw [wpOps_cons]
    simp only [seqV, stepV] at H
    cases ho : l[i]? with
    | none => rw [ho] at H; exact H.elim
    | some o =>
      rw [ho] at H
      obtain ⟨c1, c2⟩ := opB_c (opsB_c hl ho)
      have ho' : l.toArray[i]? = some o := by simpa using ho
      unfold wpOp
      rw [ho']
      dsimp only at H ⊢
      obtain ⟨e', R', H | H⟩ := guard_sound (i := i) R H
      · rw [if_pos H.1]
        refine .inl ?_
        have H := H.2
        unfold runV at H
        cases hq : isQuiet o with
        | true =>
          rw [hq] at H
          simp only [cond_true] at H
          obtain ⟨v, cv, k1, k2, k3⟩ := quiet_sound hT R'.inv R'.env c1 H
          have k1 := V.force_iff.1 k1
          unfold Oper.wp
          rw [k3 w (.inr (Ext.refl w))]
          exact seq_sound hT hl hQ is M _ h _ w k1 (R'.put c2 k2)
        | false =>
          rw [hq] at H
          simp only [cond_false] at H
          exact loud_sound hT R' c1 H Q _ fun v cv e' h' M' w' k1 k2 k3 _ => seq_sound hT hl hQ is M' _ h' _ w' (V.force_iff.1 ((hforce_iff _ _).1 k1)) (k2.put c2 k3)
      · rw [if_neg (by rw [H.1]; simp)]
        exact seq_sound hT hl hQ is M _ h _ w H.2 (R'.put c2 rfl)
end
section
variable {P : Program} {ops : Array Oper} {Q : Exit → Act → World → Prop} {md : Region.Mode}
def Closed (md : Region.Mode) (ops : Array Oper) (l : Array Bool) : Prop :=
  ∀ (j : Nat) (o : Oper), ops[j]? = some o → l.getD j false = true → ∀ e ∈ o.after, Region.binds md e = true → l.getD e.on false = true
theorem Closed.set {l : Array Bool} (h : Closed md ops l) {j : Nat} (hj : j ∈ Region.ready md ops l) : Closed md ops (l.setIfInBounds j true) := by
  intro i o ho hi e he hb
  by_cases hij : j = i
  · subst hij
    obtain ⟨_, o', ho', hall⟩ := mem_ready.1 hj
    rw [ho] at ho'
    cases ho'
    exact getD_set_true (hall e he hb)
  · rw [getD_set_ne false hij] at hi
    exact getD_set_true (h i o ho hi e he hb)
def wpAnyS (P : Program) (md : Region.Mode) (ops : Array Oper) (Q : Exit → Act → World → Prop) (S : Array Bool → World → Prop) : Nat → Array Bool → Act → World → Prop
  | 0, listed, a, w => Region.ready md ops listed = [] ∧ Q .normal a w
  | fuel + 1, listed, a, w =>
    (Region.ready md ops listed = [] → Q .normal a w) ∧
    ∀ i ∈ Region.ready md ops listed, wpOp P ops Q i (fun a' w' => S (listed.setIfInBounds i true) w' ∧ wpAnyS P md ops Q S fuel (listed.setIfInBounds i true) a' w') a w
theorem wpAny_of_S {S : Array Bool → World → Prop} : ∀ (fuel : Nat) (listed : Array Bool) (a : Act) (w : World), wpAnyS P md ops Q S fuel listed a w → wpAny P md ops Q fuel listed a w
  | 0, _, _, _, h => h
  | fuel + 1, _, _, _, h => ⟨h.1, fun i hi => wpOp_mono (fun a' w' h' => wpAny_of_S fuel _ a' w' h'.2) (h.2 i hi)⟩
theorem wpAnyS_mono {S S' : Array Bool → World → Prop} (hS : ∀ l w, S l w → S' l w) : ∀ (fuel : Nat) (listed : Array Bool) (a : Act) (w : World), wpAnyS P md ops Q S fuel listed a w → wpAnyS P md ops Q S' fuel listed a w
  | 0, _, _, _, h => h
  | fuel + 1, _, _, _, h => ⟨h.1, fun i hi => wpOp_mono (fun a' w' h' => ⟨hS _ _ h'.1, wpAnyS_mono hS fuel _ a' w' h'.2⟩) (h.2 i hi)⟩
theorem wpAnyS_first {S : Array Bool → World → Prop} {G : World → Prop} {i : Nat} {oi : Oper} {v : Value} (hi : ops[i]? = some oi) (hsel : ∀ (j : Nat) (o : Oper) cs b, ops[j]? = some o → o.op ≠ .select cs b)
    (hQ : ∀ c a w, Q (.panic c) (a.put oi.dst v) w → Q (.panic c) a w)
    (hG : ∀ l w', Closed md ops l → l.getD i true = false → S l w' → G w') (hSi : ∀ l w', S (l.setIfInBounds i true) w' ↔ S l w') :
    ∀ (fuel : Nat) (listed : Array Bool) (a : Act) (w : World), Closed md ops listed →
      (∀ j oj, ops[j]? = some oj → j ≠ i → listed.getD j true = false → (∀ e ∈ oj.after, Region.binds md e = true → e.on ≠ i) → oi.apart ops oj = true) →
      i ∈ Region.ready md ops listed → YieldsIf P ops G oi v a → S listed w →
      wpAnyS P md ops Q S fuel (listed.setIfInBounds i true) (a.put oi.dst v) w → wpAnyS P md ops Q S (fuel + 1) listed a w := by
  intro fuel
  induction fuel with
  | zero =>
    intro listed a w hcl _ hr hy hS H
    refine ⟨fun h => (by rw [h] at hr; cases hr), fun j hj => ?_⟩
    by_cases hji : j = i
    · subst hji; exact hy.wpOp hi (hG _ _ hcl (mem_ready.1 hr).1 hS) ⟨(hSi _ _).2 hS, H⟩
    · have := ready_mono hj hji
      rw [H.1] at this
      cases this
  | succ fuel ih =>
    intro listed a w hcl hfree hr hy hS H
    refine ⟨fun h => (by rw [h] at hr; cases hr), fun j hj => ?_⟩
    by_cases hji : j = i
    · subst hji; exact hy.wpOp hi (hG _ _ hcl (mem_ready.1 hr).1 hS) ⟨(hSi _ _).2 hS, H⟩
    · have h1 := H.2 j (ready_mono hj hji)
      obtain ⟨hjun, oj, hoj, hall⟩ := mem_ready.1 hj
      have hnot : ∀ e ∈ oj.after, Region.binds md e = true → e.on ≠ i := fun e he hb heq => by
        have h1 := hall e he hb
        have h0 := (mem_ready.1 hr).1
        rw [heq] at h1
        rcases Nat.lt_or_ge i listed.size with h' | h'
        · simp [h'] at h0 h1; rw [h0] at h1; cases h1
        · simp [Array.getElem?_eq_none h'] at h1
      have h2 := wpOp_putIf hoj (hfree j oj hoj hji hjun hnot) (fun cs b => hsel i oi cs b hi) (fun cs b => hsel j oj cs b hoj) hQ hy h1
      have hfree' : ∀ k ok, ops[k]? = some ok → k ≠ i → (listed.setIfInBounds j true).getD k true = false →
          (∀ e ∈ ok.after, Region.binds md e = true → e.on ≠ i) → oi.apart ops ok = true := fun k ok hk hki hun hno => by
        refine hfree k ok hk hki ?_ hno
        by_cases hjk : j = k
        · subst hjk; exact hjun
        · rw [getD_set_ne true hjk] at hun; exact hun
      refine wpOp_mono (fun a' w' h3 => ?_) h2
      have hS' : S (listed.setIfInBounds j true) w' := by
        have := h3.2.1
        rw [Array.setIfInBounds_comm _ _ (Ne.symm hji)] at this
        exact (hSi _ _).1 this
      refine ⟨hS', ih (listed.setIfInBounds j true) a' w' (hcl.set hj) hfree' (ready_mono hr (Ne.symm hji)) h3.1 hS' ?_⟩
      rw [Array.setIfInBounds_comm _ _ hji]
      exact h3.2.2
end
def reach (l : List Oper) (i : Nat) : List Nat → List Nat → List Nat
  | [], R => R
  | j :: js, R => reach l i js (match l[j]? with
    | some o => if o.after.any (fun e => Region.binds .any e && (e.on == i || R.contains e.on)) then j :: R else R
    | none => R)
theorem reach_spec {l : List Oper} {i : Nat} : ∀ (js R : List Nat), (∀ j ∈ R, ∀ s, Closed .any l.toArray s → s.getD j false = true → s.getD i false = true) →
    ∀ j ∈ reach l i js R, ∀ s, Closed .any l.toArray s → s.getD j false = true → s.getD i false = true
  | [], R, h => h
  | k :: js, R, h => by
    refine reach_spec js _ ?_
    split
    · rename_i o ho
      split
      · rename_i ha
        intro j hj
        rcases List.mem_cons.1 hj with rfl | hj
        · obtain ⟨e, he, hb⟩ := Array.any_eq_true'.1 ha
          simp only [Bool.and_eq_true, Bool.or_eq_true, beq_iff_eq, List.contains_iff_mem] at hb
          intro s hs hj
          have h1 := hs j o (by simpa using ho) hj e he hb.1
          rcases hb.2 with h2 | h2
          · rw [h2] at h1; exact h1
          · exact h e.on h2 s hs h1
        · exact h j hj
      · exact h
    · exact h
def isModAt (l : List Oper) (k : Nat) : Bool :=
  match l[k]? with
  | some o => isMod o
  | none => false
def modsLeft (l : List Oper) (listed : Array Bool) : List Nat := (List.range l.length).filter fun k => isModAt l k && !listed.getD k true
def ordGo (l : List Oper) : List Nat → Array Bool → Bool
  | [], listed => (Region.ready .any l.toArray listed).isEmpty
  | i :: is, listed => (match l[i]? with
    | some o => bif isQuiet o then Region.free .any l.toArray listed i && (Region.ready .any l.toArray listed).contains i && (!isLoad o || (modsLeft l listed).all (fun k => (reach l i (List.range l.length) []).contains k))
      else Region.ready .any l.toArray listed == [i]
    | none => false) && ordGo l is (listed.setIfInBounds i true)
def ordOK (l : List Oper) (is : List Nat) : Bool := Region.noSelect l.toArray && Nat.beq is.length l.length && ordGo l is (Array.replicate l.length false)
def SH (H : List (List Nat × World)) (l : Array Bool) (w : World) : Prop := ∀ p ∈ H, (∃ k ∈ p.1, l.getD k false = true) ∨ Ext p.2 w
section
variable {P : Program} {tt : TT} {B : World} {X : List Nat} {N : Nat} {l : List Oper}
theorem getD_tf {s : Array Bool} {k : Nat} (h : s.getD k true = false) : s.getD k false = false ∧ k < s.size := by
  rcases Nat.lt_or_ge k s.size with hlt | hge
  · exact ⟨by simp [hlt] at h ⊢; exact h, hlt⟩
  · simp [Array.getElem?_eq_none hge] at h
theorem any_sound (hT : TOk P tt) (hl : opsB N l = true) (hsel : Region.noSelect l.toArray = true) {K : Env → List Blk → Prop} {Q : Exit → Act → World → Prop} (hQ : ∀ e h M a w, K e h → Rep B X N M e h a w → Q .normal a w) (hP : ∀ c a w, ¬ Q (.panic c) a w) :
    ∀ (is : List Nat) (listed : Array Bool) (H : List (List Nat × World)) (M : MM) (e : Env) (h : List Blk) (a : Act) (w : World), ordGo l is listed = true → Closed .any l.toArray listed →
      (∀ p ∈ H, ∀ k, isModAt l k = true → listed.getD k true = false → k ∈ p.1) → (∀ p ∈ H, ∀ k ∈ p.1, isModAt l k = true) → SH H listed w →
      seqV P tt true l is K e h → Rep B X N M e h a w → wpAnyS P .any l.toArray Q (SH H) is.length listed a w
  | [], listed, H, M, e, h, a, w, ho, _, _, _, _, HK, R => ⟨by simpa [ordGo] using ho, hQ e h M a w HK R⟩
  | i :: is, listed, H, M, e, h, a, w, ho, hcl, hH1, hH2, hS, HK, R => by
    simp only [ordGo, Bool.and_eq_true] at ho
    simp only [seqV, stepV] at HK
    obtain ⟨ho1, ho2⟩ := ho
    cases hoi : l[i]? with
    | none => rw [hoi] at HK; exact HK.elim
    | some o =>
      rw [hoi] at HK ho1
      dsimp only at HK ho1
      obtain ⟨c1, c2⟩ := opB_c (opsB_c hl hoi)
      have hoi' : l.toArray[i]? = some o := by simpa using hoi
      obtain ⟨e', R', hG⟩ := guard_sound (i := i) R HK
      cases hq : isQuiet o with
      | true =>
        rw [hq] at ho1
        simp only [cond_true, Bool.and_eq_true] at ho1
        obtain ⟨⟨q1, q2⟩, q3⟩ := ho1
        have hri : i ∈ Region.ready .any l.toArray listed := by simpa using q2
        have hnm : isMod o = false := by
          obtain ⟨_, op, _, _, _, _⟩ := o
          unfold isQuiet at hq
          cases op <;> first
            | rfl
            | (cases hq; done)
            | skip
          rename_i c
          obtain ⟨callee, args, ats⟩ := c
          cases callee <;> first
            | rfl
            | (cases hq; done)
            | skip
          rename_i b
          cases b <;> first
            | rfl
            | cases hq
        have hnmi : isModAt l i = false := by simp [isModAt, hoi, hnm]
        -- the value it yields
        have hyv : ∃ v cv, rep w M h v cv ∧ YieldsIf P l.toArray (fun w' => isLoad o = false ∨ Ext w w') o cv a ∧ seqV P tt true l is K (pt o.dst v e') h := by
          rcases hG with ⟨hw, hG⟩ | ⟨hw, hG⟩
          · unfold runV at hG
            rw [hq] at hG
            simp only [cond_true] at hG
            obtain ⟨v, cv, k1, k2, k3⟩ := quiet_sound hT R'.inv R'.env c1 hG
            have k1 := V.force_iff.1 k1
            exact ⟨v, cv, k2, .inl ⟨hw, fun w' hw' => k3 w' hw'⟩, k1⟩
          · exact ⟨.undef, Go.undef, rfl, .inr ⟨hw, rfl⟩, hG⟩
        obtain ⟨v, cv, k2, hy, k1⟩ := hyv
        let H' : List (List Nat × World) := (modsLeft l listed, w) :: H
        have hS' : SH H' listed w := by
          intro p hp
          rcases List.mem_cons.1 hp with rfl | hp
          · exact .inr (Ext.refl w)
          · exact hS p hp
        have hmem : ∀ k, k ∈ modsLeft l listed ↔ k < l.length ∧ isModAt l k = true ∧ listed.getD k true = false := fun k => by
          simp only [modsLeft, List.mem_filter, List.mem_range, Bool.and_eq_true, Bool.not_eq_true']
        have hH2' : ∀ p ∈ H', ∀ k ∈ p.1, isModAt l k = true := by
          intro p hp k hk
          rcases List.mem_cons.1 hp with rfl | hp
          · exact ((hmem k).1 hk).2.1
          · exact hH2 p hp k hk
        have hset : ∀ (s : Array Bool) (k : Nat), isModAt l k = true → (s.setIfInBounds i true).getD k false = s.getD k false := fun s k hk => getD_set_ne false (fun e => by subst e; rw [hnmi] at hk; cases hk)
        have hSi : ∀ s w', SH H' (s.setIfInBounds i true) w' ↔ SH H' s w' := fun s w' => by
          constructor
          · intro hh p hp
            rcases hh p hp with ⟨k, hk, hs⟩ | hx
            · exact .inl ⟨k, hk, by rw [hset s k (hH2' p hp k hk)] at hs; exact hs⟩
            · exact .inr hx
          · intro hh p hp
            rcases hh p hp with ⟨k, hk, hs⟩ | hx
            · exact .inl ⟨k, hk, by rw [hset s k (hH2' p hp k hk)]; exact hs⟩
            · exact .inr hx
        have ih := any_sound hT hl hsel hQ hP is (listed.setIfInBounds i true) H' M (pt o.dst v e') h (a.put o.dst cv) w ho2 (hcl.set hri) (by
            intro p hp k hk hun
            have hun' : listed.getD k true = false := by
              by_cases hik : i = k
              · subst hik; rw [hnmi] at hk; cases hk
              · rw [getD_set_ne true hik] at hun; exact hun
            rcases List.mem_cons.1 hp with rfl | hp
            · refine (hmem k).2 ⟨?_, hk, hun'⟩
              unfold isModAt at hk
              split at hk
              · rename_i ho; exact (List.getElem?_eq_some_iff.1 ho).1
              · cases hk
            · exact hH1 p hp k hk hun') hH2' ((hSi _ _).2 hS') k1 (R'.put c2 k2)
        refine wpAnyS_mono (S := SH H') (fun s w' hh p hp => hh p (List.mem_cons_of_mem _ hp)) _ _ _ _ ?_
        refine wpAnyS_first hoi' (Region.noSelect_spec hsel) (fun c a w hp => absurd hp (hP c _ w)) ?_ hSi is.length listed a w hcl (Region.free_spec hoi' q1) hri hy hS' ih
        intro s w' hs hun hh
        rcases hh (modsLeft l listed, w) (by simp [H']) with ⟨k, hk, hsk⟩ | hx
        · left
          cases hld : isLoad o with
          | false => rfl
          | true =>
            exfalso
            rw [hld] at q3
            simp only [Bool.not_true, Bool.false_or, List.all_eq_true] at q3
            have := reach_spec (l := l) (i := i) (List.range l.length) [] (by simp) k (by simpa using q3 k hk) s hs hsk
            rw [(getD_tf hun).1] at this
            cases this
        · exact .inr hx
      | false =>
        rw [hq] at ho1
        simp only [cond_false, beq_iff_eq] at ho1
        have hri : i ∈ Region.ready .any l.toArray listed := by rw [ho1]; simp
        have hun := (mem_ready.1 hri).1
        have hset : (listed.setIfInBounds i true).getD i false = true := by
          have := (getD_tf hun).2
          simp [this]
        have next : ∀ w' (hx : isMod o = false → Ext w w'), SH H (listed.setIfInBounds i true) w' := fun w' hx p hp => by
          cases hm : isMod o with
          | true => exact .inl ⟨i, hH1 p hp i (by simp [isModAt, hoi, hm]) hun, hset⟩
          | false =>
            rcases hS p hp with ⟨k, hk, hs⟩ | hxx
            · exact .inl ⟨k, hk, getD_set_true hs⟩
            · exact .inr (hxx.trans (hx hm))
        have hH1' : ∀ p ∈ H, ∀ k, isModAt l k = true → (listed.setIfInBounds i true).getD k true = false → k ∈ p.1 := fun p hp k hk hu => by
          refine hH1 p hp k hk ?_
          by_cases hik : i = k
          · subst hik; exact hun
          · rw [getD_set_ne true hik] at hu; exact hu
        refine ⟨fun h0 => (by rw [h0] at hri; cases hri), fun j hj => ?_⟩
        rw [ho1] at hj
        obtain rfl : j = i := by simpa using hj
        unfold wpOp
        rw [hoi']
        dsimp only
        rcases hG with ⟨hw, hG⟩ | ⟨hw, hG⟩
        · rw [if_pos hw]
          refine .inl ?_
          unfold runV at hG
          rw [hq] at hG
          simp only [cond_false] at hG
          exact loud_sound hT R' c1 hG Q _ fun v cv e' h' M' w' k1 k2 k3 k4 => ⟨next w' (fun q => k4 q rfl), any_sound hT hl hsel hQ hP is _ H M' _ h' _ w' ho2 (hcl.set hri) hH1' hH2 (next w' (fun q => k4 q rfl)) (V.force_iff.1 ((hforce_iff _ _).1 k1)) (k2.put c2 k3)⟩
        · rw [if_neg (by rw [hw]; simp)]
          exact ⟨next w (fun _ => Ext.refl w), any_sound hT hl hsel hQ hP is _ H M _ h _ w ho2 (hcl.set hri) hH1' hH2 (next w fun _ => Ext.refl w) hG (R'.put c2 rfl)⟩
end
end Go.Proofs.Ytdeafbgnbgihgaa
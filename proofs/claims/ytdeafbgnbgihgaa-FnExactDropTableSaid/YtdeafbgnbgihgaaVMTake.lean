/- The abstract machine: data that is taken over into a slice: make, literals, append. Leans on no program. -/
import Derived.Test.YtdeafbgnbgihgaaVM11
set_option linter.unusedSimpArgs false
set_option linter.unusedVariables false
namespace Go.Proofs.Ytdeafbgnbgihgaa
open Go.RowKit

structure TkW (off len : Nat) (xs : List D) (K : Prop) : Prop where
  ex : off = 0 ∧ len = xs.length ∧ K
structure MkW (n c : Int) (bytes : Nat) (K : Nat → Prop) : Prop where
  ex : 0 ≤ n ∧ n ≤ c ∧ bytes * c ≤ 2 ^ 48 ∧ K n.toNat
structure ApW (n bytes : Nat) (K : Prop) : Prop where
  ex : n ≤ maxLen ∧ n * bytes ≤ 140737488355328 ∧ K
structure OffW (off len n : Nat) (K : Prop) : Prop where
  ex : off = 0 ∧ len ≤ n ∧ K
structure FlW (xs : List D) (n : Nat) (K K' : Prop) : Prop where
  ex : ((∀ y ∈ xs, y.flat = true ∧ y.size = n) ∧ K) ∨ ((∀ y ∈ xs, y.size = n) ∧ K')
mutual
/-- v as a datum whose memory is taken over: from the blocks that K is told -/
def tkV (h : List Blk) : V → (D → List Nat → Prop) → Prop
  | .d x, K => bif x.flat then K x [] else False
  | .nils, K => K (.lst []) []
  | .own b off len, K => match h[b]? with
    | some (.arr _ xs true) => TkW off len xs (K (.lst xs) [b])
    | _ => False
  | .st fs, K => tkVs h fs fun ys is => K (.st ys) is
  | .top, _ => False
  | .undef, _ => False
  | .nilp, _ => False
  | .pB _ _ _, _ => False
  | .pL _ _ _ _, _ => False
  | .pX _, _ => False
  | .fn _ _, _ => False
  | .tup _, _ => False
def tkVs (h : List Blk) : List V → (List D → List Nat → Prop) → Prop
  | [], K => K [] []
  | f :: fs, K => tkV h f fun y i1 => tkVs h fs fun ys i2 => K (y :: ys) (i1 ++ i2)
end
def nodupB : List Nat → Bool
  | [] => true
  | i :: is => !is.any (Nat.beq i) && nodupB is
theorem nodupB_spec : ∀ is : List Nat, nodupB is = true → is.Nodup
  | [], _ => List.nodup_nil
  | i :: is, h => by
    simp only [nodupB, Bool.and_eq_true, Bool.not_eq_true', List.any_eq_false] at h
    refine List.nodup_cons.2 ⟨fun hm => ?_, nodupB_spec is h.2⟩
    exact h.1 i hm (Nat.beq_refl i)

/-! ### rows of elements -/
section
variable {w : World} {arr arr' : Array Value} {n : Nat} {O : List Nat}
theorem ownDe_app : ∀ (xs ys : List D) (i : Nat) (F : List Nat), ownDe w arr n (xs ++ ys) i F ↔ ∃ F1 F2, F = F1 ++ F2 ∧ ownDe w arr n xs i F1 ∧ ownDe w arr n ys (i + xs.length) F2
  | [], ys, i, F => by
    constructor
    · intro h; exact ⟨[], F, rfl, rfl, h⟩
    · rintro ⟨F1, F2, rfl, h1, h2⟩
      cases h1
      exact h2
  | x :: xs, ys, i, F => by
    constructor
    · rintro ⟨G1, G2, ces, rfl, h1, h2, h3, h4⟩
      obtain ⟨F1, F2, rfl, k1, k2⟩ := (ownDe_app xs ys (i + 1) G2).1 h4
      exact ⟨G1 ++ F1, F2, by simp, ⟨G1, F1, ces, rfl, h1, h2, h3, k1⟩, by rw [show i + (x :: xs).length = i + 1 + xs.length by simp; omega]; exact k2⟩
    · rintro ⟨F1, F2, rfl, ⟨G1, G2, ces, rfl, h1, h2, h3, h4⟩, k2⟩
      refine ⟨G1, G2 ++ F2, ces, by simp, h1, h2, h3, (ownDe_app xs ys (i + 1) (G2 ++ F2)).2 ⟨G2, F2, rfl, h4, ?_⟩⟩
      rw [show i + 1 + xs.length = i + (x :: xs).length by simp; omega]; exact k2
theorem ownDe_at : ∀ (ys : List D) (i i' : Nat) (F : List Nat), (∀ k, k < ys.length → ∀ j, j < n → arr'[(i' + k) * n + j]? = arr[(i + k) * n + j]?) → ownDe w arr n ys i F → ownDe w arr' n ys i' F
  | [], i, i', F, _, h => h
  | y :: ys, i, i', F, H, h => by
    obtain ⟨F1, F2, ces, rfl, h1, h2, h3, h4⟩ := h
    refine ⟨F1, F2, ces, rfl, h1, fun j v hj => ?_, h3, ownDe_at ys (i + 1) (i' + 1) F2 (fun k hk j hj => ?_) h4⟩
    · have hjl : j < n := by
        rw [← h1, ← repD_len y ces (ownD_rep (O := []) y F1 ces (by simp) h3)]
        exact (List.getElem?_eq_some_iff.1 hj).1
      have := H 0 (by simp) j hjl
      rw [Nat.add_zero, Nat.add_zero] at this
      rw [this]
      exact h2 j v hj
    · have := H (k + 1) (by simpa using hk) j hj
      rw [show i' + (k + 1) = i' + 1 + k by omega, show i + (k + 1) = i + 1 + k by omega] at this
      exact this
theorem extDe_app : ∀ (xs ys : List D) (i : Nat), extDe O w arr n (xs ++ ys) i ↔ extDe O w arr n xs i ∧ extDe O w arr n ys (i + xs.length)
  | [], ys, i => by simp [extDe]
  | x :: xs, ys, i => by
    simp only [List.cons_append, extDe, extDe_app xs ys (i + 1), List.length_cons]
    rw [show i + 1 + xs.length = i + (xs.length + 1) by omega]
    exact and_assoc.symm
theorem extDe_at : ∀ (ys : List D) (i i' : Nat), (∀ k, k < ys.length → ∀ j, j < n → arr'[(i' + k) * n + j]? = arr[(i + k) * n + j]?) → extDe O w arr n ys i → extDe O w arr' n ys i'
  | [], i, i', _, h => h
  | y :: ys, i, i', H, ⟨⟨ces, h1, h2, h3⟩, h4⟩ => by
    refine ⟨⟨ces, h1, fun j v hj => ?_, h3⟩, extDe_at ys (i + 1) (i' + 1) (fun k hk j hj => ?_) h4⟩
    · have hjl : j < n := by
        rw [← h1, ← repD_len y ces h3]
        exact (List.getElem?_eq_some_iff.1 hj).1
      have := H 0 (by simp) j hjl
      rw [Nat.add_zero, Nat.add_zero] at this
      rw [this]
      exact h2 j v hj
    · have := H (k + 1) (by simpa using hk) j hj
      rw [show i' + (k + 1) = i' + 1 + k by omega, show i + (k + 1) = i + 1 + k by omega] at this
      exact this
theorem ext_own : ∀ (ys : List D) (i : Nat), (∀ y ∈ ys, y.flat = true) → extDe O w arr n ys i → ownDe w arr n ys i []
  | [], i, _, _ => rfl
  | y :: ys, i, hf, ⟨⟨ces, h1, h2, h3⟩, h4⟩ => ⟨[], [], ces, rfl, h1, h2, flat_own y ces (hf y (by simp)) h3, ext_own ys (i + 1) (fun z hz => hf z (by simp [hz])) h4⟩
/-- what a slice of others reads as, as a row -/
theorem repDe_row {b o : Nat} : ∀ (xs : List D) (i : Nat), repDe O w (some ⟨b, o, none⟩) n xs i →
    ∃ news : List Value, news.length = xs.length * n ∧ (∀ (j : Nat) (v : Value), news[j]? = some v → w.cell? ⟨b, o + i * n + j, none⟩ = some v) ∧ (∀ c ∈ news, c.oneCell' = true) ∧ extDe O w news.toArray n xs 0
  | [], i, _ => ⟨[], by simp, by simp, by simp, trivial⟩
  | x :: xs, i, ⟨⟨b', o', ces, e, h1, h2, h3, h4, h5⟩, h6⟩ => by
    cases e
    obtain ⟨news, k1, k2, k3, k4⟩ := repDe_row xs (i + 1) h6
    have hl := repD_len x ces h5
    refine ⟨ces ++ news, by simp [hl, h4, k1, Nat.succ_mul]; omega, fun j v hj => ?_, fun c hc => ?_, ⟨ces, h4, fun j v hj => ?_, h5⟩, ?_⟩
    · rcases Nat.lt_or_ge j ces.length with hlt | hge
      · rw [List.getElem?_append_left hlt] at hj
        exact h3 j v hj
      · rw [List.getElem?_append_right hge] at hj
        have := k2 _ v hj
        rw [show o + (i + 1) * n + (j - ces.length) = o + i * n + j by rw [Nat.succ_mul]; omega] at this
        exact this
    · rcases List.mem_append.1 hc with hc | hc
      · exact repD_one x ces h5 c hc
      · exact k3 c hc
    · have hlt : j < ces.length := (List.getElem?_eq_some_iff.1 hj).1
      simp [List.getElem?_append_left hlt, hj]
    · refine extDe_at xs 0 1 (fun k hk j hj => ?_) k4
      simp only [List.getElem?_toArray]
      rw [Nat.zero_add, List.getElem?_append_right (by rw [Nat.add_mul]; omega)]
      congr 1
      rw [Nat.add_mul, hl, h4]; omega
end

theorem mO_nodup' {B : Nat} {w : World} {M : MM} {h : List Blk} (hI : MInv B w M h) {b : Nat} {m : Option (Nat × List Nat)} (hm : M[b]? = some m) : (mO m).Nodup :=
  (List.nodup_append.1 ((List.Perm.nodup_iff (O_perm hm)).1 hI.nd)).1
section
variable {B : World} {X : List Nat} {N : Nat} {M : MM} {e : Env} {h : List Blk} {a : Act} {w : World}
mutual
theorem tk_sound {B : Nat} (hI : MInv B w M h) : ∀ (v : V) (cs : List Value) (K : D → List Nat → Prop), tkV h v K → repC w M h v cs →
    ∃ y is F, K y is ∧ ownD w y F cs ∧ y.size = v.size ∧ (is.Nodup → F.Nodup) ∧ (∀ x ∈ F, ∃ i ∈ is, ∃ m, M[i]? = some m ∧ x ∈ mO m) ∧ (∀ i ∈ is, ∃ n xs, h[i]? = some (.arr n xs true))
  | .d x, cs, K, H, R => by
    simp only [tkV] at H
    cases hf : x.flat with
    | false => rw [hf] at H; exact H.elim
    | true =>
      rw [hf] at H
      exact ⟨x, [], [], H, flat_own x cs hf R, rfl, fun _ => by simp, by simp, by simp⟩
  | .nils, cs, K, H, R => by
    cases R
    exact ⟨.lst [], [], [], H, ⟨none, 0, rfl, Nat.le_refl _, Nat.zero_le _, fun _ => rfl, .inl ⟨rfl, rfl, rfl⟩⟩, rfl, fun _ => by simp, by simp, by simp⟩
  | .own b off len, cs, K, H, R => by
    simp only [tkV] at H
    split at H
    · rename_i n xs hk
      obtain ⟨⟨rfl, rfl, H⟩⟩ := H
      obtain ⟨cv, rfl, aa, cap, rfl, h1, h2, h3, h4⟩ := R
      rcases h4 with h4 | ⟨g, F, arr, t, m1, rfl, m3, m4⟩
      · have : xs = [] := List.eq_nil_of_length_eq_zero (by omega)
        subst this
        exact ⟨_, [b], [], H, ⟨aa, cap, rfl, h1, h2, h3, .inl ⟨rfl, rfl, h4⟩⟩, rfl, fun _ => by simp, by simp, by simp [hk]⟩
      · obtain ⟨arr', t', k1, k2, k3⟩ := hI.blk b _ _ hk m1
        rw [m3] at k1
        cases k1
        rw [if_pos rfl] at k3
        have hn : nOf h b = n := by simp [nOf, hk]
        rw [hn, Nat.zero_add] at m4
        refine ⟨_, [b], g :: F, H, ⟨_, cap, rfl, h1, h2, h3, .inr ⟨g, arr, t, n, F, by simp, m3, m4, rfl, k3⟩⟩, rfl, fun _ => ?_, fun x hx => ⟨b, by simp, _, m1, hx⟩, by simp [hk]⟩
        exact mO_nodup' hI m1
    · exact H.elim
  | .st fs, cs, K, H, R => by
    obtain ⟨ys, is, F, k1, k2, k3, k4, k5, k6⟩ := tks_sound hI fs cs _ H R
    exact ⟨_, is, F, k1, k2, k3, k4, k5, k6⟩
  | .top, _, _, H, _ => H.elim
  | .undef, _, _, H, _ => H.elim
  | .nilp, _, _, H, _ => H.elim
  | .pB _ _ _, _, _, H, _ => H.elim
  | .pL _ _ _ _, _, _, H, _ => H.elim
  | .pX _, _, _, H, _ => H.elim
  | .fn _ _, _, _, H, _ => H.elim
  | .tup _, _, _, H, _ => H.elim
theorem tks_sound {B : Nat} (hI : MInv B w M h) : ∀ (vs : List V) (cs : List Value) (K : List D → List Nat → Prop), tkVs h vs K → repCs w M h vs cs →
    ∃ ys is F, K ys is ∧ ownDs w ys F cs ∧ D.sizes ys = V.sizes vs ∧ (is.Nodup → F.Nodup) ∧ (∀ x ∈ F, ∃ i ∈ is, ∃ m, M[i]? = some m ∧ x ∈ mO m) ∧ (∀ i ∈ is, ∃ n xs, h[i]? = some (.arr n xs true))
  | [], cs, K, H, R => ⟨[], [], [], H, ⟨rfl, R⟩, rfl, fun _ => by simp, by simp, by simp⟩
  | v :: vs, cs, K, H, R => by
    obtain ⟨c1, c2, e, r1, r2⟩ := R
    obtain ⟨y, i1, F1, H1, k2, k3, k4, k5, k6⟩ := tk_sound hI v c1 _ H r1
    obtain ⟨ys, i2, F2, H2, l2, l3, l4, l5, l6⟩ := tks_sound hI vs c2 _ H1 r2
    refine ⟨y :: ys, i1 ++ i2, F1 ++ F2, H2, ⟨F1, F2, c1, c2, rfl, e, k2, l2⟩, by simp only [D.sizes, V.sizes, k3, l3], fun hn => ?_, fun x hx => ?_, fun i hi => ?_⟩
    · obtain ⟨n1, n2, n3⟩ := List.nodup_append.1 hn
      refine List.nodup_append.2 ⟨k4 n1, l4 n2, fun x hx y hy e => ?_⟩
      subst e
      obtain ⟨i, hi, m, hm, hxm⟩ := k5 x hx
      obtain ⟨j, hj, m', hm', hxm'⟩ := l5 x hy
      have := O_block_inj hI hm hm' hxm hxm'
      subst this
      exact n3 _ hi _ hj rfl
    · rcases List.mem_append.1 hx with hx | hx
      · obtain ⟨i, hi, r⟩ := k5 x hx
        exact ⟨i, by simp [hi], r⟩
      · obtain ⟨i, hi, r⟩ := l5 x hx
        exact ⟨i, by simp [hi], r⟩
    · rcases List.mem_append.1 hi with hi | hi
      · exact k6 i hi
      · exact l6 i hi
end
end

/-- a new row of n elements with room for c, out of 'rows' -/
theorem Rep.newRow {B : World} {X : List Nat} {N : Nat} {M : MM} {e : Env} {h : List Blk} {a : Act} {w w1 : World} (R : Rep B X N M e h a w) {arr : Array Value} {t : TypeId} {n cap : Nat} {xs : List D} {dp : Bool} {is ks : List Nat} {F : List Nat}
    (hw1 : Ext w w1) (hw1s : w1.heap.size = w.heap.size) (hsz : arr.size = cap * n) (hle : xs.length ≤ cap) (hcap : cap ≤ maxLen) (hsub : ∀ i ∈ is, i ∈ ks) (hF : F.Nodup) (hFm : ∀ x ∈ F, ∃ i ∈ is, ∃ m, M[i]? = some m ∧ x ∈ mO m)
    (hisl : ∀ i ∈ is, ∃ k, h[i]? = some k ∧ k.live = true)
    (hel : if dp = true then ownDe w arr n xs 0 F else F = [] ∧ extDe M.O w arr n xs 0) :
    ∃ M', Rep B X N M' (dropE ks e) ((goneL is (dropK ks (h ++ [.gone]))).set h.length (.arr n xs dp)) a (w1.alloc (.cells arr t)) ∧
      rep (w1.alloc (.cells arr t)) M' ((goneL is (dropK ks (h ++ [.gone]))).set h.length (.arr n xs dp)) (.own h.length 0 xs.length) (.slice (some ⟨w1.heap.size, 0, none⟩) xs.length cap) := by
  have R1 := R.room
  have h0 : 0 < h.length := (List.getElem?_eq_some_iff.1 R.fh).1
  have hisn : ∀ i ∈ is, i ≠ 0 ∧ i < h.length := fun i hi => by
    obtain ⟨k, hk, hl⟩ := hisl i hi
    refine ⟨fun e => ?_, (List.getElem?_eq_some_iff.1 hk).1⟩
    subst e
    rw [R.fh] at hk
    cases hk
    cases hl
  have hMl : (M ++ [none])[h.length]? = some none := by
    rw [← R.inv.len, List.getElem?_append_right (Nat.le_refl _)]; simp
  have hx : Ext w (w1.alloc (.cells arr t)) := hw1.alloc _
  have hnew : (w1.alloc (.cells arr t)).heap[w1.heap.size]? = some (.cells arr t (0, 0)) := heap_new w1 _
  have key : ∀ (M' : MM) (h' : List Blk), (∀ x, x ∉ MM.O (M ++ [none]) → x < w.heap.size → x ∉ MM.O M' ∧ (w1.alloc (.cells arr t)).heap[x]? = w.heap[x]?) → BRep (w1.alloc (.cells arr t)) M' h' (.arr n xs dp) (some (w1.heap.size, F)) := by
    intro M' h' hext
    refine ⟨arr, t, hnew, by rw [hsz]; exact Nat.mul_le_mul_right _ hle, ?_⟩
    cases dp with
    | true =>
      rw [if_pos rfl] at hel ⊢
      exact ownDe_mv arr n xs 0 F (fun x hxm => hx.below.block x (by
        obtain ⟨i, hi, m, hm, hxm⟩ := hFm x hxm
        exact R.inv.hi x (mem_O hm hxm))) hel
    | false =>
      rw [if_neg (by simp)] at hel ⊢
      refine ⟨hel.1, extDe_mv (fun b hb hlt => ?_) xs 0 hel.2⟩
      have := hext b (by rw [O_app]; simpa [MM.O, mO] using hb) hlt
      exact this
  obtain ⟨M', R', hM', mv, -⟩ := R1.reset (R.ext.trans hx) (w' := w1.alloc (.cells arr t)) (b := h.length) (m0 := none) hMl (by omega) (k0 := .gone) (by rw [List.getElem?_append_right (Nat.le_refl _)]; simp) (.inr rfl) is ks
    (fun hi => (hisn 0 hi).1 rfl) (fun hi => by have := (hisn _ hi).2; omega) hsub (fun i hi k hk => by
      obtain ⟨k1, hk1, hl⟩ := hisl i hi
      rw [List.getElem?_append_left (hisn i hi).2, hk1] at hk
      cases hk
      exact hl) (m' := some (w1.heap.size, F))
    (List.nodup_cons.2 ⟨fun hm => by
      obtain ⟨i, _, m, hm, hx⟩ := hFm _ hm
      have := R.inv.hi _ (mem_O hm hx)
      omega, hF⟩)
    (fun x hx => by
      rcases List.mem_cons.1 hx with rfl | hx
      · exact .inr (.inr (by omega))
      · obtain ⟨i, hi, m, hm, hxm⟩ := hFm x hx
        exact .inr (.inl ⟨i, hi, m, get_app_left hm, hxm⟩))
    (fun x hx => by
      rcases List.mem_cons.1 hx with rfl | hx
      · simp
      · obtain ⟨i, hi, m, hm, hxm⟩ := hFm x hx
        have := R.inv.hi x (mem_O hm hxm)
        simp; omega)
    (by simp; omega) (fun x hlt _ => hx.below.block x hlt) (k' := .arr n xs dp) rfl (fun _ g F hm => by cases hm) key
  · refine ⟨M', R', rep_own.2 ⟨_, cap, rfl, hle, hcap, (fun q => by cases q), .inr ⟨w1.heap.size, F, arr, t, hM', ?_, hnew, ?_⟩⟩⟩
    · rw [Nat.zero_mul]
    · have hn : nOf ((goneL is (dropK ks (h ++ [.gone]))).set h.length (.arr n xs dp)) h.length = n := by
        unfold nOf
        rw [List.getElem?_set_self (by rw [goneL_len, dropK_len]; simp)]
      rw [hn, hsz, Nat.zero_add]
      exact Nat.le_refl _
end Go.Proofs.Ytdeafbgnbgihgaa

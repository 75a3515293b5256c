/- classOf: sorted, each once. -/
import Derived.Test.YtcachhipflibkaaGreatShelf
import Derived.Test.YtcachhipflibkaaGreatVMP
import Derived.Test.YtcachhipflibkaaGreatCoV
set_option linter.unusedSimpArgs false
set_option linter.unusedVariables false
namespace Go.Proofs.YtcachhipflibkaaGreat
open Go.RowKit
def srt (xs : List Int) : List Int := xs.mergeSort fun x y => decide (x ≤ y)
def cls (xs : List Int) : List Int := Lib.compact (srt xs)
theorem srt_len (xs : List Int) : (srt xs).length = xs.length := List.length_mergeSort xs
theorem srt_mem {xs : List Int} {x : Int} : x ∈ srt xs ↔ x ∈ xs := List.mem_mergeSort
theorem srt_pw (xs : List Int) : (srt xs).Pairwise (fun x y => x ≤ y) := by
  have := List.pairwise_mergeSort (le := fun x y : Int => decide (x ≤ y)) (by intro a b c h1 h2; simp at h1 h2 ⊢; omega) (by intro a b; simp; omega) xs
  exact this.imp (by intro a b h; simpa using h)
theorem cmp_sub (zs : List Int) : List.Sublist (Lib.compact zs) zs := by
  have h1 : List.Sublist (((List.range zs.length).filter (Lib.keeps zs.toArray)).map (zs.toArray[·]!)) ((List.range zs.length).map (zs.toArray[·]!)) := List.Sublist.map _ List.filter_sublist
  have h2 : (List.range zs.length).map (zs.toArray[·]!) = zs := by
    apply List.ext_getElem
    · simp
    · intro i h1 h2; simp [h2]
  rw [h2] at h1
  exact h1
theorem cmp_mem {zs : List Int} : ∀ (j : Nat), j < zs.length → zs.toArray[j]! ∈ Lib.compact zs
  | j, hj => by
    by_cases hk : Lib.keeps zs.toArray j = true
    · exact List.mem_map.2 ⟨j, List.mem_filter.2 ⟨by simpa using hj, hk⟩, rfl⟩
    · have h0 : j ≠ 0 := fun e => hk (Lib.keeps_lt_one _ j (by omega))
      have he : zs.toArray[j]! = zs.toArray[j - 1]! := by
        apply Classical.byContradiction
        intro hne
        exact hk (Lib.keeps_pos hne)
      rw [he]
      exact cmp_mem (j - 1) (by omega)
theorem cls_mem {xs : List Int} {x : Int} : x ∈ cls xs ↔ x ∈ xs := by
  constructor
  · intro h; exact srt_mem.1 ((cmp_sub _).subset h)
  · intro h
    obtain ⟨j, hj, e⟩ := List.getElem_of_mem (srt_mem.2 h)
    have := cmp_mem (zs := srt xs) j hj
    simp only [hj, List.getElem!_toArray, getElem!_pos] at this
    rw [e] at this
    exact this
theorem cls_len (xs : List Int) : (cls xs).length ≤ xs.length := by
  rw [← srt_len xs]; exact (cmp_sub _).length_le
theorem cls_last {xs : List Int} {k : Nat} {z : Int} (hk : k + 1 = (cls xs).length) (hz : (cls xs)[k]? = some z) : ∀ x ∈ xs, x ≤ z := by
  intro x hx
  have hp : (cls xs).Pairwise (fun x y => x ≤ y) := (srt_pw xs).sublist (cmp_sub _)
  obtain ⟨j, hj, e⟩ := List.getElem_of_mem (cls_mem.2 hx)
  have hz' : (cls xs)[k]'(by omega) = z := by rw [List.getElem?_eq_getElem (by omega)] at hz; simpa using hz
  rcases Nat.lt_or_ge j k with h | h
  · have := List.pairwise_iff_getElem.1 hp j k hj (by omega) h
    omega
  · have : j = k := by omega
    subst this
    omega
theorem inR_ints {xs : List Int} {w : World} {arr : Array Value} {F : List Nat} (h : ownDe w arr 1 (xs.map (D.int .i64)) 0 F) : ∀ x ∈ xs, inR .i64 x := fun x hx => by
  obtain ⟨j, hj, e⟩ := List.getElem_of_mem hx
  exact ((own_ints xs 0 F h).2 j x (by rw [List.getElem?_eq_getElem hj, e])).2
theorem grow0 (w : World) : Sort.grow w #[] = w := by simp [Sort.grow]
theorem sort_k (xs : List Int) (hl : xs.length ≤ 1000000) : PK Tryz.prog 203 1 (xs.map (D.int .i64)) [] (.tup []) ((srt xs).map (D.int .i64)) where
  fn := ⟨_, Tryz.func203, rfl, rfl⟩
  len := by simp [srt_len]
  run := by
    intro w g t arr cap F args hg hnd hF hc1 hc2 hc3 ho ha
    cases (show args = [] from ha)
    obtain ⟨rfl, -⟩ := own_ints xs 0 F ho
    rw [List.length_map] at hc1 ⊢
    refine (Tryz.slices_Sort_int g 0 cap xs w (holds_ints hg ho) (lt_of_heap hg) (by omega)).mono ?_
    rintro en w' ⟨rfl, n, os, rfl⟩
    obtain ⟨arr', k1, k2, k3, k4⟩ := put_kept (ys := srt xs) hg (by rw [srt_len]; omega) (fun y hy => inR_ints ho y (srt_mem.1 hy)) n os
    exact ⟨_, arr', [], rfl, ⟨[], rfl, rfl⟩, k1, k2, k3, k4⟩
  nil := by
    intro hx w a cap args h1 h2 ha
    cases (show args = [] from ha)
    refine (Tryz.slices_Sort_int_none a cap w).mono ?_
    rintro en w' ⟨rfl, rfl⟩
    exact ⟨_, rfl, ⟨[], rfl, rfl⟩, Ext.refl _⟩
theorem compact_r (xs : List Int) (hl : xs.length ≤ 1000000) : PR Tryz.prog 204 1 (xs.map (D.int .i64)) [] (Lib.compact xs).length ((Lib.compact xs ++ List.replicate (xs.length - (Lib.compact xs).length) 0).map (D.int .i64)) where
  fn := ⟨_, Tryz.func204, rfl, rfl⟩
  len := by have := (cmp_sub xs).length_le; simp; omega
  le := by have := (cmp_sub xs).length_le; simpa using this
  run := by
    intro w g t arr cap F args hg hnd hF hc1 hc2 hc3 ho ha
    cases (show args = [] from ha)
    obtain ⟨rfl, -⟩ := own_ints xs 0 F ho
    rw [List.length_map] at hc1 ⊢
    have hle := (cmp_sub xs).length_le
    refine (Tryz.slices_Compact_int g 0 cap xs w (holds_ints hg ho) (by omega) hc1).mono ?_
    rintro en w' ⟨rfl, n, rfl⟩
    obtain ⟨arr', k1, k2, k3, k4⟩ := put_kept (ys := Lib.compact xs ++ List.replicate (xs.length - (Lib.compact xs).length) 0) hg (by simp; omega) (fun y hy => by
      rcases List.mem_append.1 hy with hy | hy
      · exact inR_ints ho y ((cmp_sub xs).subset hy)
      · rw [List.eq_of_mem_replicate hy]; exact ⟨by decide, by decide⟩) n #[]
    rw [grow0] at k1 k2 k4
    exact ⟨arr', [], rfl, k1, k2, k3, k4⟩
  nil := by
    intro hx w a cap args h1 h2 ha
    cases (show args = [] from ha)
    refine (Tryz.slices_Compact_int_empty a cap w).mono ?_
    rintro en w' ⟨rfl, rfl⟩
    exact ⟨rfl, Ext.refl _⟩
theorem classOf_v (xs : List Int) (hl : xs.length ≤ 1000000) : PC Tryz.prog 161 [.d (.lst (xs.map (D.int .i64)))] (.own 1 0 (cls xs).length) [.arr 1 ((cls xs ++ List.replicate (xs.length - (cls xs).length) 0).map (D.int .i64)) true] := by
  refine pc_intro ttOk (by kernel_rfl) Tryz.func161 rfl (by kernel_rfl) (by kernel_rfl) (by kernel_rfl) (fun hw => ?_)
  have c1 := cloneI_v xs hl
  have c2 := sort_k xs hl
  have c3 := compact_r (srt xs) (by rw [srt_len]; exact hl)
  rw [srt_len] at c3
  have hL : (xs.map (D.int .i64)).length = xs.length := List.length_map _
  have hL2 : ((srt xs).map (D.int .i64)).length = xs.length := by rw [List.length_map, srt_len]
  (conv => whnf)
  (repeat' (first | (refine stg_ ?_) | (refine cla_ (c1) ?_) | (refine clk_ (c2) ?_) | (refine clp_ (c3) ?_) | (refine br_ (fun hbr => ?_) (fun hbr => ?_))))
  (refine ⟨⟨[some 1], ⟨by decide, rfl, trivial, trivial⟩, by decide, rfl, ?_⟩⟩; (conv => whnf); exact ⟨by decide, rfl⟩)
end Go.Proofs.YtcachhipflibkaaGreat

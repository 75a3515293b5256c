/- The factor of a peak: what the program's and the reference's functions return, for every peak and number. -/
import Derived.Test.YtcpoglgldelhnaaNum
import Derived.Test.YtcpoglgldelhnaaPeak
namespace Go.Proofs.Ytcpoglgldelhnaa
open Go.RowKit

def pkF (a b c n : Int) : Int := if b = 0 ∨ n = b then 16384 else if n ≤ a ∨ c ≤ n then 0 else if n < b then divR ((n - a) * 16384) (b - a) else divR ((c - n) * 16384) (c - b)

theorem vpk_bd {a b c : Int} (h : vpk a b c = true) : -16384 ≤ a ∧ a ≤ b ∧ b ≤ c ∧ c ≤ 16384 := by
  simp only [vpk, decide_eq_true_eq] at h
  omega
theorem nrm_bd {n : Int} (h : nrm n = true) : -16384 ≤ n ∧ n ≤ 16384 := by simpa [nrm] using h

theorem peakFactor_c (a b c n : Int) (w : World) (hp : vpk a b c = true) (hn : nrm n = true) :
    Calls Try.prog 40 #[.agg #[.int .i64 a, .int .i64 b, .int .i64 c], .int .i64 n] w fun e w' => e = .returned (.int .i64 (pkF a b c n)) ∧ Ext w w' := by
  obtain ⟨h1, h2, h3, h4⟩ := vpk_bd hp
  obtain ⟨h5, h6⟩ := nrm_bd hn
  clear hp hn
  go_enter Try.func40, Try.ntmps40
  go_wp2_with (go_at_call 52; refine (DivRound_c _ _ _ ⟨by omega, by omega⟩ ⟨by omega, by omega⟩).mono ?_; rintro e w' ⟨rfl, rfl⟩)
  all_goals (go_ret; refine ⟨ret_int ?_, by (repeat (first | with_reducible exact Ext.refl _ | with_reducible assumption | with_reducible refine Ext.alloc ?_ _ | with_reducible refine Ext.drew ?_ | with_reducible refine Ext.drewN ?_ _ | (with_reducible refine Ext.setCell ?_ (by first | omega | (dsimp only; omega)) _) | with_reducible refine Ext.trans ?_ (by assumption)))⟩; simp_all [pkF]; try omega)
theorem l30Factor_c (a b c n : Int) (w : World) (hp : vpk a b c = true) (hn : nrm n = true) :
    Calls Try.prog 39 #[.agg #[.int .i64 a, .int .i64 b, .int .i64 c], .int .i64 n] w fun e w' => e = .returned (.int .i64 (pkF a b c n)) ∧ Ext w w' := by
  obtain ⟨h1, h2, h3, h4⟩ := vpk_bd hp
  obtain ⟨h5, h6⟩ := nrm_bd hn
  clear hp hn
  go_enter Try.func39, Try.ntmps39
  go_wp2_with (go_at_call 51; refine (specDivRound_c _ _ _ ⟨by omega, by omega⟩ ⟨by omega, by omega⟩).mono ?_; rintro e w' ⟨rfl, rfl⟩)
  all_goals (go_ret; refine ⟨ret_int ?_, by (repeat (first | with_reducible exact Ext.refl _ | with_reducible assumption | with_reducible refine Ext.alloc ?_ _ | with_reducible refine Ext.drew ?_ | with_reducible refine Ext.drewN ?_ _ | (with_reducible refine Ext.setCell ?_ (by first | omega | (dsimp only; omega)) _) | with_reducible refine Ext.trans ?_ (by assumption)))⟩; simp_all [pkF]; try omega)
def pkFE (a b c n : Int) : Value := if vpk a b c = false then .tuple #[.int .i64 0, .int .i64 1] else if nrm n = false then .tuple #[.int .i64 0, .int .i64 2] else .tuple #[.int .i64 (pkF a b c n), .int .i64 0]
theorem PeakFactor_c (a b c n : Int) (w : World) :
    Calls Try.prog 20 #[.agg #[.int .i64 a, .int .i64 b, .int .i64 c], .int .i64 n] w fun e w' => e = .returned (pkFE a b c n) ∧ Ext w w' := by
  go_enter Try.func20, Try.ntmps20
  go_wp2_with (first | (go_at_call 11; refine (ValidPeak_c _ _ _ _).mono ?_; rintro e w1 ⟨rfl, hb1⟩; obtain ⟨hc1, hf1⟩ := hb1.keeps) | (go_at_call 29; refine (isNormal_c _ _).mono ?_; rintro e w' ⟨rfl, rfl⟩) | (go_at_call 40; refine (peakFactor_c _ _ _ _ _ (by simp_all) (by simp_all)).mono ?_; rintro e w2 ⟨rfl, hb2⟩; obtain ⟨hc2, hf2⟩ := hb2.keeps))
  all_goals (go_ret2; refine ⟨?_, by (repeat (first | with_reducible exact Ext.refl _ | with_reducible assumption | with_reducible refine Ext.alloc ?_ _ | with_reducible refine Ext.drew ?_ | with_reducible refine Ext.drewN ?_ _ | (with_reducible refine Ext.setCell ?_ (by first | omega | (dsimp only; omega)) _) | with_reducible refine Ext.trans ?_ (by assumption)))⟩; simp_all [pkFE])
theorem specPeakFactor_c (a b c n : Int) (w : World) :
    Calls Try.prog 19 #[.agg #[.int .i64 a, .int .i64 b, .int .i64 c], .int .i64 n] w fun e w' => e = .returned (pkFE a b c n) ∧ Ext w w' := by
  go_enter Try.func19, Try.ntmps19
  go_wp2_with (first | (go_at_call 28; refine (l30Peak_c _ _ _ _).mono ?_; rintro e w1 ⟨rfl, hb1⟩; obtain ⟨hc1, hf1⟩ := hb1.keeps) | (go_at_call 38; refine (l29Normal_c _ _).mono ?_; rintro e w' ⟨rfl, rfl⟩) | (go_at_call 39; refine (l30Factor_c _ _ _ _ _ (by simp_all) (by simp_all)).mono ?_; rintro e w2 ⟨rfl, hb2⟩; obtain ⟨hc2, hf2⟩ := hb2.keeps))
  all_goals (go_ret2; refine ⟨?_, by (repeat (first | with_reducible exact Ext.refl _ | with_reducible assumption | with_reducible refine Ext.alloc ?_ _ | with_reducible refine Ext.drew ?_ | with_reducible refine Ext.drewN ?_ _ | (with_reducible refine Ext.setCell ?_ (by first | omega | (dsimp only; omega)) _) | with_reducible refine Ext.trans ?_ (by assumption)))⟩; simp_all [pkFE])
end Go.Proofs.Ytcpoglgldelhnaa

/- merged: several parts in one text. Leans on no more than they do. -/
import Derived.Test.YtpdeibhedafcfaaGreatDoorVMSry
import Derived.Test.YtpdeibhedafcfaaGreatDoorGsP
import Derived.Test.YtpdeibhedafcfaaGreatDoorTT
import Derived.Test.YtpdeibhedafcfaaGreatDoorRvX
import Derived.Laws.IdiomCopy
import Derived.Deep.RegionLaw
import Derived.Deep.LoopGhost
import Derived.Lib.SliceRun
import Derived.Shelf.RegionOpenPlain
import Derived.WalkKit
import Derived.Lib.Walk
import Derived.Laws.Bits64b
import Derived.Test.YtpdeibhedafcfaaGreatDoorVMTac
import Derived.Test.YtpdeibhedafcfaaGreatDoorLVBase
import Derived.Test.YtpdeibhedafcfaaGreatDoorVgP
import Derived.Test.YtpdeibhedafcfaaGreatDoorVMK
set_option linter.unusedSimpArgs false
set_option linter.unusedVariables false
namespace Go.Proofs.YtpdeibhedafcfaaGreatDoor
open Go.RowKit
set_option maxHeartbeats 4000000 in
set_option maxRecDepth 1000000 in
theorem next_p (n g cap : Nat) (pl sd : Int) (t : TypeId) (a : Option Addr) (w : World) (hg : w.heap[g]? = some (.cells #[.slice a n cap, .int .i64 pl, .int .u64 sd] t (0, 0))) (hpl0 : 0 ≤ pl) (hpl : pl < 4611686018427387904) (hsd0 : 0 ≤ sd) (hsd : sd ≤ 18446744073709551615)
   (b o : Nat) (c : Nat) (hcc : c < 256) (hk : pl < n → a = some ⟨b, o, none⟩ ∧ w.cell? ⟨b, o + pl.toNat, none⟩ = some (.int .u8 c)) :
  Calls Tryz.prog 89 #[.pointer (some ⟨g, 0, none⟩)] w (fun e w' => ∃ v sd' : Int, e = .returned (.int .i64 v) ∧ 0 ≤ v ∧ v < 256 ∧ 0 ≤ sd' ∧ sd' ≤ 18446744073709551615 ∧ w'.heap = ((w.setCell ⟨g, 1, none⟩ (.int .i64 (pl + 1))).setCell ⟨g, 2, none⟩ (.int .u64 sd')).heap ∧ w'.os = w.os ∧ w'.tape = w.tape ∧ w'.output = w.output) := by
  have hc0 : w.cell? ⟨g, 0, none⟩ = some (.slice a n cap) := by simp [World.cell?, hg]
  have hc1 : w.cell? ⟨g, 1, none⟩ = some (.int .i64 pl) := by simp [World.cell?, hg]
  have hc2 : w.cell? ⟨g, 2, none⟩ = some (.int .u64 sd) := by simp [World.cell?, hg]
  have hf1 : w.frozen? ⟨g, 1, none⟩ = false := by simp [World.frozen?, hg]
  have hw1 : IntKind.i64.wrap (pl + 1) = pl + 1 := by rw [IntKind.wrap_i64]; omega
  have mixed : Tryz.prog.follows .mixedOrders = true := by kernel_rfl
  have st1 := setCell_heap0 hg 1 (.int .i64 (pl + 1))
  have hd0 : (w.setCell ⟨g, 1, none⟩ (.int .i64 (pl + 1))).cell? ⟨g, 0, none⟩ = some (.slice a n cap) := by simp only [World.cell?, st1]; rfl
  have hd1 : (w.setCell ⟨g, 1, none⟩ (.int .i64 (pl + 1))).cell? ⟨g, 1, none⟩ = some (.int .i64 (pl + 1)) := by simp only [World.cell?, st1]; rfl
  have hd2 : (w.setCell ⟨g, 1, none⟩ (.int .i64 (pl + 1))).cell? ⟨g, 2, none⟩ = some (.int .u64 sd) := by simp only [World.cell?, st1]; rfl
  have he2 : (w.setCell ⟨g, 1, none⟩ (.int .i64 (pl + 1))).frozen? ⟨g, 2, none⟩ = false := by simp only [World.frozen?, st1]; rfl
  have hk0 : ∀ s, ((w.setCell ⟨g, 1, none⟩ (.int .i64 (pl + 1))).setCell ⟨g, 2, none⟩ (.int .u64 s)).cell? ⟨g, 0, none⟩ = some (.slice a n cap) := fun s => by simp only [World.cell?, setCell_heap0 st1]; rfl
  have hk1 : ∀ s, ((w.setCell ⟨g, 1, none⟩ (.int .i64 (pl + 1))).setCell ⟨g, 2, none⟩ (.int .u64 s)).cell? ⟨g, 1, none⟩ = some (.int .i64 (pl + 1)) := fun s => by simp only [World.cell?, setCell_heap0 st1]; rfl
  have hk2 : ∀ s, ((w.setCell ⟨g, 1, none⟩ (.int .i64 (pl + 1))).setCell ⟨g, 2, none⟩ (.int .u64 s)).cell? ⟨g, 2, none⟩ = some (.int .u64 s) := fun s => by simp only [World.cell?, setCell_heap0 st1]; rfl
  have hwr : ∀ x, 0 ≤ IntKind.u64.wrap x ∧ IntKind.u64.wrap x ≤ 18446744073709551615 := fun x => by rw [IntKind.wrap_u64]; omega
  have hand : ∀ x : Int, 0 ≤ x → x < 18446744073709551616 → 0 ≤ wrap64 (bits .and .u64 x 255) ∧ wrap64 (bits .and .u64 x 255) < 256 := fun x h1 h2 => by
    have e := bits_and_u64_nat x.toNat 255 (by omega) (by omega)
    rw [show ((x.toNat : Nat) : Int) = x by omega, show ((255 : Nat) : Int) = 255 from rfl, Nat.and_two_pow_sub_one_eq_mod x.toNat 8] at e
    rw [e]
    unfold wrap64
    omega
  by_cases hlt : pl < n
  · obtain ⟨rfl, hcb⟩ := hk hlt
    have hle : pl + 1 ≤ n := by omega
    have hs := hwr (IntKind.u64.wrap (IntKind.u64.wrap (sd * 6364136223846793005) + ↑c) + 1442695040888963407)
    have q0 := hk0 (IntKind.u64.wrap (IntKind.u64.wrap (IntKind.u64.wrap (sd * 6364136223846793005) + ↑c) + 1442695040888963407))
    have q1 := hk1 (IntKind.u64.wrap (IntKind.u64.wrap (IntKind.u64.wrap (sd * 6364136223846793005) + ↑c) + 1442695040888963407))
    have q2 := hk2 (IntKind.u64.wrap (IntKind.u64.wrap (IntKind.u64.wrap (sd * 6364136223846793005) + ↑c) + 1442695040888963407))
    go_enter Tryz.func89, Tryz.ntmps89
    go_wp2
    go_region_o
    go_wp2
    go_region_o
    go_wp2
    go_region_o
    go_wp2
    go_ret
    exact ⟨_, _, rfl, by omega, by omega, hs.1, hs.2, rfl, rfl, rfl, rfl⟩
  · have hle : ¬ pl + 1 ≤ n := by omega
    have hs := hwr (IntKind.u64.wrap (IntKind.u64.wrap (sd * 6364136223846793005)) + 1442695040888963407)
    have q0 := hk0 (IntKind.u64.wrap (IntKind.u64.wrap (IntKind.u64.wrap (sd * 6364136223846793005)) + 1442695040888963407))
    have q1 := hk1 (IntKind.u64.wrap (IntKind.u64.wrap (IntKind.u64.wrap (sd * 6364136223846793005)) + 1442695040888963407))
    have q2 := hk2 (IntKind.u64.wrap (IntKind.u64.wrap (IntKind.u64.wrap (sd * 6364136223846793005)) + 1442695040888963407))
    go_enter Tryz.func89, Tryz.ntmps89
    go_wp2
    go_region_o
    go_wp2
    go_region_o
    go_wp2
    go_ret
    have hb := hand (IntKind.u64.wrap (IntKind.u64.wrap (IntKind.u64.wrap (sd * 6364136223846793005)) + 1442695040888963407) / 1099511627776) (by omega) (by omega)
    exact ⟨_, _, rfl, hb.1, hb.2, hs.1, hs.2, rfl, rfl, rfl, rfl⟩
theorem next_e (code : List UInt8) : PEs Tryz.prog 89 (code.map bD) 1 [] (fun v => ∃ x, v = .d (.int .i64 x) ∧ 0 ≤ x ∧ x < 256) where
 fn := ⟨_, Tryz.func89, rfl, rfl⟩
 run pl sd w g t cc args hst hpl hg hcc hargs := by
  cases (show args = [] from hargs)
  obtain ⟨a, cap, n, hcv, hc1, hc2, hc3, hel⟩ := hcc
  obtain rfl : cc = .slice a (code.map bD).length cap := by simpa using hcv
  obtain ⟨s1, s2, s3, s4⟩ := hst
  obtain ⟨b, o, c, hc, hk⟩ : ∃ b o c, c < 256 ∧ (pl < ((code.map bD).length : Nat) → a = some ⟨b, o, none⟩ ∧ w.cell? ⟨b, o + pl.toNat, none⟩ = some (.int .u8 (c : Nat))) := by
   by_cases hlt : pl < ((code.map bD).length : Nat)
   ·obtain ⟨x, hx⟩ := at_lt' (xs := code) (k := pl.toNat) (by rw [List.length_map] at hlt; omega)
    obtain ⟨b, o, ces, q1, q2, q3, q4, q5, q6⟩ := (repDe_get _ 0).1 hel pl.toNat (bD x) (by rw [List.getElem?_map, hx]; rfl)
    obtain ⟨rfl, q7⟩ := q6
    have hn : n = 1 := q5.symm
    subst hn
    have := q4 0 _ rfl
    rw [Nat.zero_add, Nat.mul_one, Nat.add_zero] at this
    exact ⟨b, o, x.toNat, x.toNat_lt, fun _ => ⟨q1, this⟩⟩
   ·exact ⟨0, 0, 0, by omega, fun h => absurd h hlt⟩
  refine (next_p _ g cap pl sd t a w hg s1 (by omega) s3 s4 b o c hc hk).mono ?_
  rintro en w' ⟨v, sd', rfl, v1, v2, d1, d2, hh, h1, h2, h3⟩
  have st1 := setCell_heap0 hg 1 (.int .i64 (pl + 1))
  have st2 := setCell_heap0 st1 2 (.int .u64 sd')
  have ho : ∀ x, x ≠ g → w'.heap[x]? = w.heap[x]? := fun x hx => by rw [hh, setCell_other0 hx, setCell_other0 hx]
  have hsz : w'.heap.size = w.heap.size := by rw [hh, setCell_size0, setCell_size0]
  refine ⟨_, _, pl + 1, sd', ⟨v, rfl, v1, v2⟩, by omega, by omega, ⟨by omega, by omega, d1, d2⟩, rfl, fun M h => ?_, ?_, ⟨h1, h2, h3, by omega, fun x _ hx => ho x (by simpa using hx), by simp, fun x hx => .inl hx, fun x hx => ?_⟩⟩
  ·refine rep_of_rep1 (v := .d (.int .i64 v)) ?_
   exact ⟨rfl, by have e1 : IntKind.i64.min = -9223372036854775808 := rfl; have e2 : IntKind.i64.max = 9223372036854775807 := rfl; unfold inR; omega⟩
  ·rw [hh, st2]; rfl
  ·have : x = g := by simpa using hx
   subst this
   rw [hsz]; exact lt_of_heap hg
def PkQ (n : Int) (v : V) : Prop := ∃ x, v = .d (.int .i64 x) ∧ 0 ≤ x ∧ (x < n ∨ x = 0)
theorem pick_e (code : List UInt8) (n : Int) : PEs Tryz.prog 45 (code.map bD) 2 [.d (.int .i64 n)] (PkQ n) := by
 refine pe_intro ttOk (by kernel_rfl) Tryz.func45 rfl (by kernel_rfl) (by kernel_rfl) (by rfl) (by rfl) (fun k s g t cc pl sd hw hst hpl => ?_)
 have c0 := next_e code
 (conv => whnf)
 (repeat (refine stg_ ?_))
 (refine br_ (fun h1 => ?_) (fun h1 => ?_))
 ·(repeat (refine stg_ ?_))
  (refine ⟨⟨_, rfl, by omega, by omega⟩, rfl, _, _, _, ?_, ?_, ?_, rfl⟩ <;> first | omega | assumption)
 ·(repeat (refine stg_ ?_))
  (refine clr_ c0 (by assumption) (by omega) ?_; rintro _ pl1 sd1 ⟨x, rfl, hx1, hx2⟩ hl1 hl2 hs1; (conv => whnf))
  (repeat (refine stg_ ?_))
  (refine br_ (fun h2 => ?_) (fun h2 => ?_))
  ·(repeat (refine stg_ ?_))
   (refine clr_ c0 (by assumption) (by omega) ?_; rintro _ pl2 sd2 ⟨y, rfl, hy1, hy2⟩ hl3 hl4 hs2; (conv => whnf))
   (repeat (refine stg_ ?_))
   have ht : (x * 256 + y).tmod n = (x * 256 + y) % n := Int.tmod_eq_emod_of_nonneg (by omega)
   have hm := Int.emod_nonneg (x * 256 + y) (b := n) (by omega)
   have hm2 := Int.emod_lt_of_pos (x * 256 + y) (b := n) (by omega)
   (refine ⟨⟨_, rfl, by omega, by omega⟩, rfl, _, _, _, ?_, ?_, ?_, rfl⟩ <;> first | omega | assumption)
  ·(repeat (refine stg_ ?_))
   have ht : x.tmod n = x % n := Int.tmod_eq_emod_of_nonneg (by omega)
   have hm := Int.emod_nonneg x (b := n) (by omega)
   have hm2 := Int.emod_lt_of_pos x (b := n) (by omega)
   (refine ⟨⟨_, rfl, by omega, by omega⟩, rfl, _, _, _, ?_, ?_, ?_, rfl⟩ <;> first | omega | assumption)
theorem one_e (code : List UInt8) (n : Int) : PEs Tryz.prog 50 (code.map bD) 2 [.d (.int .i64 n)] (fun v => ∃ b, v = .d (.bool b)) := by
 refine pe_intro ttOk (by kernel_rfl) Tryz.func50 rfl (by kernel_rfl) (by kernel_rfl) (by rfl) (by rfl) (fun k s g t cc pl sd hw hst hpl => ?_)
 have c0 := pick_e code n
 (conv => whnf)
 (repeat (refine stg_ ?_))
 (refine clr_ c0 (by assumption) (by omega) ?_; rintro _ pl1 sd1 ⟨x, rfl, hx1, hx2⟩ hl1 hl2 hs1; (conv => whnf))
 (repeat (refine stg_ ?_))
 (refine ⟨⟨_, rfl⟩, rfl, _, _, _, ?_, ?_, ?_, rfl⟩ <;> first | omega | assumption)
theorem word_e (code : List UInt8) (n : Int) (hn1 : 1 ≤ n) (hn2 : n ≤ 1000) : PEs Tryz.prog 92 (code.map bD) (2 + n) [.d (.int .i64 n)] (fun v => ∃ b : ByteArray, v = .d (.str b) ∧ b.size < n) := by
 refine pe_intro ttOk (by kernel_rfl) Tryz.func92 rfl (by kernel_rfl) (by kernel_rfl) (by rfl) (by rfl) (fun k s g t cc pl sd hw hst hpl => ?_)
 have c0 := pick_e code n
 have c1 := next_e code
 (conv => whnf)
 (repeat (refine stg_ ?_))
 (refine clr_ c0 (by assumption) (by omega) ?_; rintro _ pl1 sd1 ⟨x, rfl, hx1, hx2⟩ hl1 hl2 hs1; (conv => whnf))
 (repeat (refine stg_ ?_))
 refine LoopW.go (α := List UInt8 × Int × Int) (fun p => [(0, .pB 2 [] 0), (1, .d (.int .i64 n)), (5, .own 4 0 p.1.length), (6, .d (.int .i64 (x - p.1.length)))]) (fun p => [.gone, .gho k s g 4 t, .box (.d (srcR cc p.2.1 p.2.2)), .keep [(0, .d (.lst (code.map bD)))] (fun _ => cc), .arr 1 (p.1.map bD) true])
  (fun p => (p.1.length : Int) ≤ x ∧ pl1 ≤ p.2.1 ∧ p.2.1 ≤ pl1 + p.1.length ∧ stOK p.2.1 p.2.2) (fun p => (x - p.1.length).toNat) ([], pl1, sd1) (Weak.cov ⟨rfl, rfl, rfl, by (show _ = V.d (D.int .i64 (x - 0))); rw [Int.sub_zero]; rfl, trivial⟩ ⟨trivial, rfl, rfl, rfl, rfl, trivial⟩ rfl) ⟨by simp; omega, by simp, by simp, hs1⟩ ?_
 rintro ⟨bs, pl2, sd2⟩ ⟨k1, k2, k3, k4⟩
 dsimp only at k1 k2 k3 k4 ⊢
 have hL : (bs.map bD).length = bs.length := List.length_map _
 (conv => whnf)
 (repeat (refine stg_ ?_))
 (refine br_ (fun h1 => ?_) (fun h1 => ?_))
 ·(repeat (refine stg_ ?_))
  (refine clr_ c1 (by assumption) (by omega) ?_; rintro _ pl3 sd3 ⟨y, rfl, hy1, hy2⟩ hl3 hl4 hs3; (conv => whnf))
  (repeat (refine stg_ ?_))
  obtain ⟨c, rfl⟩ : ∃ c : UInt8, y = (c.toNat : Nat) := ⟨UInt8.ofNat y.toNat, by simp only [UInt8.toNat_ofNat']; omega⟩
  have hl : ((bs ++ [c]).length : Int) = bs.length + 1 := by simp
  refine NextW.go (bs ++ [c], pl3, sd3) (Weak.cov ⟨rfl, rfl, ?_, ?_, trivial⟩ ⟨trivial, rfl, rfl, rfl, ?_, trivial⟩ rfl) ⟨by dsimp only; omega, by dsimp only; omega, by dsimp only; omega, hs3⟩ (by dsimp only; omega)
  ·show _ = V.own 4 0 (bs ++ [c]).length
   rw [List.length_append]; rfl
  ·show _ = V.d (D.int .i64 (x - ((bs ++ [c]).length : Nat)))
   rw [hl, ← Int.sub_sub]; rfl
  ·show _ = Blk.arr 1 (List.map bD (bs ++ [c])) true
   rw [List.map_append, ← hL, List.take_length]; rfl
 ·(repeat (refine stg_ ?_))
  refine StW.at (s := mkS bs) (by rw [List.drop_zero, List.take_of_length_le (by omega), mkS_toList]) ?_
  (conv => whnf)
  (repeat (refine stg_ ?_))
  (refine ⟨⟨_, rfl, by rw [mkS_size]; omega⟩, rfl, _, _, _, ?_, ?_, ?_, rfl⟩ <;> first | omega | assumption)
theorem coord_e (code : List UInt8) (n : Int) (hn1 : 0 ≤ n) (hn2 : n ≤ 262144) : PEs Tryz.prog 127 (code.map bD) 5 [.d (.int .i64 n)] (fun v => ∃ x, v = .d (.int .i64 x) ∧ -n ≤ x ∧ x ≤ n) := by
 refine pe_intro ttOk (by kernel_rfl) Tryz.func127 rfl (by kernel_rfl) (by kernel_rfl) (by rfl) (by rfl) (fun k s g t cc pl sd hw hst hpl => ?_)
 have c0 := next_e code
 have c1 := one_e code 2
 (conv => whnf)
 (repeat (refine stg_ ?_))
 (refine clr_ c0 (by assumption) (by omega) ?_; rintro _ pl1 sd1 ⟨x, rfl, hx1, hx2⟩ hl1 hl2 hs1; (conv => whnf))
 (repeat (refine stg_ ?_))
 (refine clr_ c0 (by assumption) (by omega) ?_; rintro _ pl2 sd2 ⟨y, rfl, hy1, hy2⟩ hl3 hl4 hs2; (conv => whnf))
 (repeat (refine stg_ ?_))
 (refine clr_ c0 (by assumption) (by omega) ?_; rintro _ pl3 sd3 ⟨z, rfl, hz1, hz2⟩ hl5 hl6 hs3; (conv => whnf))
 (repeat (refine stg_ ?_))
 have ht : (x * 65536 + y * 256 + z).tmod (n + 1) = (x * 65536 + y * 256 + z) % (n + 1) := Int.tmod_eq_emod_of_nonneg (by omega)
 have hm := Int.emod_nonneg (x * 65536 + y * 256 + z) (b := n + 1) (by omega)
 have hm2 := Int.emod_lt_of_pos (x * 65536 + y * 256 + z) (b := n + 1) (by omega)
 generalize hg : (x * 65536 + y * 256 + z).tmod (n + 1) = q at *
 rw [← ht] at hm hm2
 (refine clr_ c1 (by assumption) (by omega) ?_; rintro _ pl4 sd4 ⟨b, rfl⟩ hl7 hl8 hs4; (conv => whnf))
 (refine br_ (fun hb => ?_) (fun hb => ?_))
 ·(repeat (refine stg_ ?_))
  (refine ⟨⟨_, rfl, by omega, by omega⟩, rfl, _, _, _, ?_, ?_, ?_, rfl⟩ <;> first | omega | assumption)
 ·(repeat (refine stg_ ?_))
  (refine ⟨⟨_, rfl, by omega, by omega⟩, rfl, _, _, _, ?_, ?_, ?_, rfl⟩ <;> first | omega | assumption)
def PtQ (v : V) (bs : List Blk) : Prop := ∃ p : TPt, v = .d p.D ∧ bs = []
theorem l03Draw_z (code : List UInt8) (n : Int) (hn1 : 0 ≤ n) (hn2 : n ≤ 262144) : PZ Tryz.prog 90 (code.map bD) 10 [.d (.int .i64 n)] PtQ := by
 refine pz_intro ttOk (by kernel_rfl) Tryz.func90 rfl (by kernel_rfl) (by kernel_rfl) (by rfl) (by rfl) (fun k s g t cc pl sd hw hst hpl => ?_)
 have c0 := coord_e code n hn1 hn2
 (conv => whnf)
 (repeat (refine stg_ ?_))
 (refine clr_ c0 (by assumption) (by omega) ?_; rintro _ pl1 sd1 ⟨x, rfl, hx1, hx2⟩ hl1 hl2 hs1; (conv => whnf))
 (repeat (refine stg_ ?_))
 (refine clr_ c0 (by assumption) (by omega) ?_; rintro _ pl2 sd2 ⟨y, rfl, hy1, hy2⟩ hl3 hl4 hs2; (conv => whnf))
 (repeat (refine stg_ ?_))
 refine ⟨_, _, ⟨⟨x, y⟩, rfl, rfl⟩, ?_, pl2, sd2, _, by omega, by omega, hs2, rfl⟩
 refine RetOK.d rfl rfl ?_
 (conv => whnf)
 exact ⟨_, rfl, _, _, rfl, rfl, _, _, rfl, rfl, rfl⟩
def trDL : OT := .q 0 (.q 2 (.q 3 (.q 5 (.alt 1 (.alt 4 (.alt 6 (.q 7 (.alt 8 (.alt 9 (.alt 10 (.q 11 (.alt 12 .done .nil)) .nil) .nil) .nil)) .nil) .nil) (.alt 4 (.alt 1 (.alt 6 (.q 7 (.alt 8 (.alt 9 (.alt 10 (.q 11 (.alt 12 .done .nil)) .nil) .nil) .nil)) .nil) (.alt 6 (.q 1 (.q 7 (.alt 8 (.alt 9 (.alt 10 (.q 11 (.alt 12 .done .nil)) .nil) .nil) .nil))) .nil)) .nil)))))
def LpQ (v : V) (bs : List Blk) : Prop := ∃ ks : List TKnot, 1 ≤ ks.length ∧ ks.length ≤ 9 ∧ v = .st [.own 1 0 ks.length] ∧ bs = [.arr 3 (ks.map TKnot.D) true]
set_option maxHeartbeats 4000000 in
theorem l10DrawLoop_z (code : List UInt8) (n : Int) (hn1 : 0 ≤ n) (hn2 : n ≤ 262144) : PZ Tryz.prog 91 (code.map bD) 200 [.d (.int .i64 n)] LpQ := by
 refine pz_intro ttOk (by kernel_rfl) Tryz.func91 rfl (by kernel_rfl) (by kernel_rfl) (by rfl) (by rfl) (fun k s g t cc pl sd hw hst hpl => ?_)
 have c0 := pick_e code 9
 have c1 := pick_e code 5
 have c2 := l03Draw_z code n hn1 hn2
 (conv => whnf)
 (repeat (refine stg_ ?_))
 (refine clr_ c0 (by assumption) (by omega) ?_; rintro _ pl1 sd1 ⟨q, rfl, hq0, hq⟩ hl1 hl2 hs1; (conv => whnf))
 (repeat (refine stg_ ?_))
 refine LoopW.go (α := Int × Int × Int × List TKnot) (fun p => [(0, .pB 2 [] 0), (1, .d (.int .i64 n)), (4, .pB 4 [] 0), (5, .pB 5 [] 0), (6, .d (.int .i64 p.2.2.1))]) (fun p => [.gone, .gho k s g 4 t, .box (.d (srcR cc p.1 p.2.1)), .keep [(0, .d (.lst (code.map bD)))] (fun _ => cc), .box (.st [.nils]), .box (.st [.own 6 0 p.2.2.2.length]), .arr 3 (p.2.2.2.map TKnot.D) true])
  (fun p => pl ≤ p.1 ∧ p.1 ≤ pl + 2 + 12 * p.2.2.2.length ∧ stOK p.1 p.2.1 ∧ 0 ≤ p.2.2.1 ∧ p.2.2.1 + p.2.2.2.length = 1 + q) (fun p => p.2.2.1.toNat) (pl1, sd1, 1 + q, []) (Weak.trans (Weak.adoptL 5 [] rfl rfl 3 true) (Weak.cov ⟨rfl, rfl, rfl, rfl, rfl, trivial⟩ ⟨trivial, rfl, rfl, rfl, rfl, rfl, rfl, trivial⟩ rfl)) ⟨by dsimp only; omega, by dsimp only [List.length_nil]; omega, hs1, by dsimp only; omega, by simp⟩ ?_
 rintro ⟨pl2, sd2, j, ks⟩ ⟨k1, k2, k3, k4, k5⟩
 dsimp only at k1 k2 k3 k4 k5 ⊢
 have hL : (ks.map TKnot.D).length = ks.length := List.length_map _
 (conv => whnf)
 (repeat (refine stg_ ?_))
 (refine br_ (fun h1 => ?_) (fun h1 => ?_))
 ·(repeat ((fail_if_success (with_reducible apply RegD.id)); (refine stg_ ?_)))
  refine RegD.cutS (fun e h => ∃ pl' sd', ∃ kn : TKnot, pl2 ≤ pl' ∧ pl' ≤ pl2 + 12 ∧ stOK pl' sd' ∧ e = [(0, .pB 2 [] 0), (1, .d (.int .i64 n)), (4, .pB 4 [] 0), (5, .pB 5 [] 0), (6, .d (.int .i64 j))] ∧ h = [.gone, .gho k s g 4 t, .box (.d (srcR cc pl' sd')), .keep [(0, .d (.lst (code.map bD)))] (fun _ => cc), .box (.st [.nils]), .box (.st [.own 6 0 (ks ++ [kn]).length]), .arr 3 ((ks ++ [kn]).map TKnot.D) true]) trDL (by kernel_rfl) ?_ ?_
  ·(conv => whnf)
   (repeat ((fail_if_success (with_reducible apply RegD.id)); (refine stg_ ?_)))
   have hap : ∀ kn : TKnot, Blk.arr 3 ((ks.map TKnot.D).take ks.length ++ [kn.D]) true = Blk.arr 3 ((ks ++ [kn]).map TKnot.D) true := fun kn => by
    rw [List.take_of_length_le (by omega), List.map_append]; rfl
   refine And.intro ?_ ?_ <;> (conv => whnf)
   ·(repeat ((fail_if_success (with_reducible apply RegD.id)); (refine stg_ ?_)))
    (refine clzr_ c2 (by assumption) (by omega) ?_; rintro v bs pl3 sd3 ⟨p, rfl, rfl⟩ q1 q2 q3 <;> refine ⟨rfl, ?_⟩ <;> (conv => whnf))
    (repeat ((fail_if_success (with_reducible apply RegD.id)); (refine stg_ ?_)))
    (refine clr_ c1 (by assumption) (by omega) ?_; rintro _ pl4 sd4 ⟨z, rfl, hz0, hz⟩ q4 q5 q6; (conv => whnf))
    (repeat (first | ((with_reducible apply ApW.id); (refine ApW.at (by simp only [List.length_cons, List.length_nil]; show _ ≤ 9223372036854775807; omega) (by simp only [List.length_cons, List.length_nil]; show _ * 24 ≤ 140737488355328; omega) ?_; (conv => whnf))) | ((fail_if_success (with_reducible apply RegD.id)); (fail_if_success (with_reducible apply ApW.id)); (refine stg_ ?_))))
    refine ⟨_, _, ⟨pl4, sd4, ⟨p, decide (1 < z)⟩, by omega, by omega, q6, rfl, rfl⟩, ?_⟩
    rw [List.length_append]
    refine Weak.cov ?_ ?_ ?_
    all_goals first | (refine ⟨trivial, rfl, rfl, rfl, rfl, rfl, hap ⟨p, decide (1 < z)⟩, trivial⟩) | (focus ((repeat' (first | exact trivial | with_reducible rfl | (refine ⟨?_, ?_⟩) | rfl)); done)) | rfl
   ·(repeat ((fail_if_success (with_reducible apply RegD.id)); (refine stg_ ?_)))
    (refine clzr_ c2 (by assumption) (by omega) ?_; rintro v bs pl3 sd3 ⟨p, rfl, rfl⟩ q1 q2 q3 <;> refine ⟨rfl, ?_⟩ <;> (conv => whnf))
    refine And.intro ?_ ?_ <;> (conv => whnf)
    all_goals (repeat ((fail_if_success (with_reducible apply RegD.id)); (refine stg_ ?_)))
    all_goals ((refine clr_ c1 (by assumption) (by omega) ?_; rintro _ pl4 sd4 ⟨z, rfl, hz0, hz⟩ q4 q5 q6; (conv => whnf)))
    all_goals (repeat (first | ((with_reducible apply ApW.id); (refine ApW.at (by simp only [List.length_cons, List.length_nil]; show _ ≤ 9223372036854775807; omega) (by simp only [List.length_cons, List.length_nil]; show _ * 24 ≤ 140737488355328; omega) ?_; (conv => whnf))) | ((fail_if_success (with_reducible apply RegD.id)); (fail_if_success (with_reducible apply ApW.id)); (refine stg_ ?_))))
    all_goals (refine ⟨_, _, ⟨pl4, sd4, ⟨p, decide (1 < z)⟩, by omega, by omega, q6, rfl, rfl⟩, ?_⟩)
    all_goals rw [List.length_append]
    all_goals (refine Weak.cov ?_ ?_ ?_)
    all_goals first | (refine ⟨trivial, rfl, rfl, rfl, rfl, rfl, hap ⟨p, decide (1 < z)⟩, trivial⟩) | (focus ((repeat' (first | exact trivial | with_reducible rfl | (refine ⟨?_, ?_⟩) | rfl)); done)) | rfl
  ·rintro e h ⟨pl3, sd3, kn, q1, q2, q3, rfl, rfl⟩
   (conv => whnf)
   (repeat (refine stg_ ?_))
   refine NextW.go (pl3, sd3, j - 1, ks ++ [kn]) covT_ ⟨by dsimp only; omega, by simp; omega, q3, by dsimp only; omega, by simp; omega⟩ (by dsimp only; omega)
 ·(repeat (refine stg_ ?_))
  obtain ⟨k0, hk0⟩ := at_lt' (xs := ks) (k := 0) (by omega)
  have he : (ks.map TKnot.D)[0]? = some k0.D := by rw [List.getElem?_map, hk0]; rfl
  refine EoW.at he ?_
  (conv => whnf)
  (repeat (refine stg_ ?_))
  refine ⟨_, _, ⟨ks.set 0 ⟨k0.fAt, true⟩, by simp; omega, by simp; omega, rfl, rfl⟩, ?_, pl2, sd2, _, by omega, by omega, k3, rfl⟩
  have hset : ∀ kn : TKnot, Blk.arr 3 ((ks.map TKnot.D).set (Int.toNat 0 + 0) kn.D) true = Blk.arr 3 ((ks.set 0 kn).map TKnot.D) true := fun kn => by rw [List.map_set]; rfl
  refine ⟨⟨[some 6], ⟨by decide, congrArg some (hset ⟨k0.fAt, true⟩), trivial, trivial⟩, by decide, ⟨rfl, ?_⟩⟩⟩
  rw [List.length_set]
  exact rn_
def DaQ (nm : ByteArray) (v : V) (bs : List Blk) : Prop := (∃ mi de ma : Int, v = .st [.d (.str nm), .d (.int .i64 mi), .d (.int .i64 de), .d (.int .i64 ma), .nils] ∧ bs = []) ∨
 ∃ (mi de ma : Int) (ps : List TAxisPoint), ps.length ≤ 6 ∧ v = .st [.d (.str nm), .d (.int .i64 mi), .d (.int .i64 de), .d (.int .i64 ma), .own 1 0 ps.length] ∧ bs = [.arr 2 (ps.map TAxisPoint.D) true]
def trA15 : OT := .q 0 (.q 2 (.q 3 (.q 4 (.q 5 (.alt 1 (.alt 6 (.q 7 (.alt 8 (.alt 9 (.alt 10 (.q 11 (.alt 12 .done .nil)) .nil) .nil) .nil)) .nil) (.alt 6 (.q 1 (.q 7 (.alt 8 (.alt 9 (.alt 10 (.q 11 (.alt 12 .done .nil)) .nil) .nil) .nil))) .nil))))))
def trA19 : OT := .q 0 (.q 2 (.q 3 (.q 4 (.alt 1 (.alt 5 (.alt 6 (.alt 7 (.alt 8 (.q 9 (.alt 10 .done .nil)) .nil) .nil) .nil) .nil) (.alt 5 (.q 1 (.alt 6 (.alt 7 (.alt 8 (.q 9 (.alt 10 .done .nil)) .nil) .nil) .nil)) .nil)))))
set_option maxHeartbeats 8000000 in
theorem l29Draw_z (code : List UInt8) (nm : ByteArray) : PZ Tryz.prog 97 (code.map bD) 20 [.d (.str nm)] (DaQ nm) := by
 refine pz_intro ttOk (by kernel_rfl) Tryz.func97 rfl (by kernel_rfl) (by kernel_rfl) (by rfl) (by rfl) (fun k s g t cc pl sd hw hst hpl => ?_)
 have p4 := pick_e code 4
 have p7 := pick_e code 7
 have p3 := pick_e code 3
 have p16 := pick_e code 16000
 have p8 := pick_e code 8000
 have pO := pick_e code 16384
 have o2 := one_e code 2
 (conv => whnf)
 (repeat ((fail_if_success (with_reducible apply RegD.id)); (refine stg_ ?_)))
 (refine clr_ p4 (by assumption) (by omega) ?_; rintro _ pl1 sd1 ⟨n, rfl, hn0, hn⟩ hl1 hl2 hs1; (conv => whnf))
 (repeat ((fail_if_success (with_reducible apply RegD.id)); (refine stg_ ?_)))
 apply share (S := fun v e h => ∃ pl' sd' mi de ma b, pl ≤ pl' ∧ pl' ≤ pl + 6 ∧ stOK pl' sd' ∧ v = .d (.bool b) ∧ e = [(0, .pB 2 [] 0), (4, .pB 4 [] 0), (5, .pB 5 [] 0)] ∧ h = [.gone, .gho k s g 4 t, .box (.d (srcR cc pl' sd')), .keep [(0, .d (.lst (code.map bD)))] (fun _ => cc), .box (.st [.d (.str .empty), .d (.int .i64 0), .d (.int .i64 0), .d (.int .i64 0), .nils]), .box (.st [.d (.str nm), .d (.int .i64 mi), .d (.int .i64 de), .d (.int .i64 ma), .nils])])
 ·intro H9
  (refine br_ (fun h0 => ?_) (fun h0 => ?_))
  ·(repeat ((fail_if_success (with_reducible apply RegD.id)); (refine stg_ ?_)))
   (refine clr_ p7 (by assumption) (by omega) ?_; rintro _ pl2 sd2 ⟨n7, rfl, hn70, hn7⟩ hl3 hl4 hs2; (conv => whnf))
   (repeat ((fail_if_success (with_reducible apply RegD.id)); (refine stg_ ?_)))
   refine clrS_ o2 (by assumption) (by omega) (fun _ => on_res) _ ?_ H9
   rintro _ pl3 sd3 ⟨b, rfl⟩ hl5 hl6 hs3
   refine ⟨_, _, ⟨pl3, sd3, -32000, n7 - 3, 32000, b, by omega, by omega, hs3, rfl, rfl, rfl⟩, ?_⟩
   (refine Weak.cov ?_ ?_ ?_; (focus exact cv_); (focus exact cv_); (focus rfl))
  ·(repeat ((fail_if_success (with_reducible apply RegD.id)); (refine stg_ ?_)))
   (refine br_ (fun h1 => ?_) (fun h1 => ?_))
   ·(repeat ((fail_if_success (with_reducible apply RegD.id)); (refine stg_ ?_)))
    (refine CallW.inl ttOk (by kernel_rfl) Tryz.func44 rfl (by kernel_rfl) (by kernel_rfl) (by rfl) (fun s => ?_); (conv => whnf))
    (repeat ((fail_if_success (with_reducible apply RegD.id)); (refine stg_ ?_)))
    (refine clr_ p3 (by assumption) (by omega) ?_; rintro _ pl2 sd2 ⟨n3, rfl, hn30, hn3⟩ hl3 hl4 hs2; (conv => whnf))
    obtain rfl | rfl | rfl : n3 = 0 ∨ n3 = 1 ∨ n3 = 2 := by omega
    all_goals
     (repeat ((fail_if_success (with_reducible apply RegD.id)); (refine stg_ ?_)))
     refine EoW.at rfl ?_
     (conv => whnf)
     (repeat ((fail_if_success (with_reducible apply RegD.id)); (refine stg_ ?_)))
     (refine And.intro rfl ?_; (conv => whnf))
     (repeat ((fail_if_success (with_reducible apply RegD.id)); (refine stg_ ?_)))
     refine clrS_ o2 (by assumption) (by omega) (fun _ => on_res) _ ?_ H9
     rintro _ pl3 sd3 ⟨b, rfl⟩ hl5 hl6 hs3
    ·refine ⟨_, _, ⟨pl3, sd3, 100, 100, 900, b, by omega, by omega, hs3, rfl, rfl, rfl⟩, ?_⟩
     (refine Weak.cov ?_ ?_ ?_; (focus exact cv_); (focus exact cv_); (focus rfl))
    ·refine ⟨_, _, ⟨pl3, sd3, 100, 900, 900, b, by omega, by omega, hs3, rfl, rfl, rfl⟩, ?_⟩
     (refine Weak.cov ?_ ?_ ?_; (focus exact cv_); (focus exact cv_); (focus rfl))
    ·refine ⟨_, _, ⟨pl3, sd3, 100, 333, 900, b, by omega, by omega, hs3, rfl, rfl, rfl⟩, ?_⟩
     (refine Weak.cov ?_ ?_ ?_; (focus exact cv_); (focus exact cv_); (focus rfl))
   ·(repeat ((fail_if_success (with_reducible apply RegD.id)); (refine stg_ ?_)))
    refine clrS_ o2 (by assumption) (by omega) (fun _ => on_res) _ ?_ H9
    rintro _ pl3 sd3 ⟨b, rfl⟩ hl5 hl6 hs3
    refine ⟨_, _, ⟨pl3, sd3, 100, 400, 900, b, by omega, by omega, hs3, rfl, rfl, rfl⟩, ?_⟩
    (refine Weak.cov ?_ ?_ ?_; (focus exact cv_); (focus exact cv_); (focus rfl))
 ·rintro v e h ⟨pl1, sd1, mi, de, ma, b, hl1, hl2, hs1, rfl, rfl, rfl⟩
  (conv => whnf)
  have hap : ∀ (ps : List TAxisPoint) (q : TAxisPoint), some (Blk.arr 2 ((ps.map TAxisPoint.D).take ps.length ++ [q.D]) true) = some (Blk.arr 2 ((ps ++ [q]).map TAxisPoint.D) true) := fun ps q => by
   rw [List.take_of_length_le (by simp), List.map_append]; rfl
  have hst0 : ∀ ps : List TAxisPoint, (ps.map TAxisPoint.D).length = ps.length := fun ps => List.length_map _
  cases b
  ·(conv => whnf)
   (repeat ((fail_if_success (with_reducible apply RegD.id)); (refine stg_ ?_)))
   refine clrS_ o2 (by assumption) (by omega) (fun _ => on_res) (fun v e h => ∃ pl' sd' b, pl ≤ pl' ∧ pl' ≤ pl + 8 ∧ stOK pl' sd' ∧ v = .d (.bool b) ∧ e = [(0, .pB 2 [] 0), (4, .pB 4 [] 0), (5, .pB 5 [] 0), (6, .d (.int .i64 16384))] ∧ h = [.gone, .gho k s g 4 t, .box (.d (srcR cc pl' sd')), .keep [(0, .d (.lst (code.map bD)))] (fun _ => cc), .box (.st [.d (.str .empty), .d (.int .i64 0), .d (.int .i64 0), .d (.int .i64 0), .nils]), .box (.st [.d (.str nm), .d (.int .i64 mi), .d (.int .i64 de), .d (.int .i64 ma), .own 6 0 1]), .arr 2 [TAxisPoint.D ⟨-16384, -16384⟩] true]) ?_ ?_
   ·rintro _ pl2 sd2 ⟨b, rfl⟩ hl3 hl4 hs2
    refine ⟨_, _, ⟨pl2, sd2, b, by omega, by omega, hs2, rfl, rfl, rfl⟩, ?_⟩
    (refine Weak.cov ?_ ?_ ?_; (focus exact cv_); (focus exact cv_); (focus rfl))
   rintro v e h ⟨pl1, sd1, b, hl1, hl2, hs1, rfl, rfl, rfl⟩
   (conv => whnf)
   apply share (S := fun v e h => ∃ pl' sd' b, ∃ ps : List TAxisPoint, pl ≤ pl' ∧ pl' ≤ pl + 14 ∧ stOK pl' sd' ∧ ps.length ≤ 3 ∧ v = .d (.bool b) ∧ e = [(0, .pB 2 [] 0), (4, .pB 4 [] 0), (5, .pB 5 [] 0), (6, .d (.int .i64 16384))] ∧ h = [.gone, .gho k s g 4 t, .box (.d (srcR cc pl' sd')), .keep [(0, .d (.lst (code.map bD)))] (fun _ => cc), .box (.st [.d (.str .empty), .d (.int .i64 0), .d (.int .i64 0), .d (.int .i64 0), .nils]), .box (.st [.d (.str nm), .d (.int .i64 mi), .d (.int .i64 de), .d (.int .i64 ma), .own 6 0 ps.length]), .arr 2 (ps.map TAxisPoint.D) true])
   ·intro H17
    refine br_ (fun hb => ?_) (fun hb => ?_)
    rotate_left
    ·(repeat (first | ((with_reducible apply ApW.id); (refine ApW.at (by simp only [List.length_cons, List.length_nil]; show _ ≤ 9223372036854775807; omega) (by simp only [List.length_cons, List.length_nil]; show _ * 16 ≤ 140737488355328; omega) ?_; (conv => whnf))) | ((fail_if_success (with_reducible apply RegD.id)); (fail_if_success (with_reducible apply ApW.id)); (refine stg_ ?_))))
     refine clrS_ o2 (by assumption) (by omega) (fun _ => on_res) _ ?_ H17
     rintro _ pl2 sd2 ⟨b, rfl⟩ hl3 hl4 hs2
     refine ⟨_, _, ⟨pl2, sd2, b, [⟨-16384, -16384⟩, ⟨0, 0⟩], by omega, by omega, hs2, by simp, rfl, rfl, rfl⟩, ?_⟩
     (refine Weak.cov ?_ ?_ ?_; (focus exact cv_); (focus exact cv_); (focus rfl))
    ·(repeat ((fail_if_success (with_reducible apply RegD.id)); (refine stg_ ?_)))
     (refine clr_ p16 (by assumption) (by omega) ?_; rintro _ pl2 sd2 ⟨n16, rfl, hn160, hn16⟩ hl3 hl4 hs2; (conv => whnf))
     (repeat ((fail_if_success (with_reducible apply RegD.id)); (refine stg_ ?_)))
     refine RegD.cutS (fun e h => ∃ pl' sd', ∃ p : TAxisPoint, pl ≤ pl' ∧ pl' ≤ pl + 12 ∧ stOK pl' sd' ∧ e = [(0, .pB 2 [] 0), (4, .pB 4 [] 0), (5, .pB 5 [] 0), (6, .d (.int .i64 16384))] ∧ h = [.gone, .gho k s g 4 t, .box (.d (srcR cc pl' sd')), .keep [(0, .d (.lst (code.map bD)))] (fun _ => cc), .box (.st [.d (.str .empty), .d (.int .i64 0), .d (.int .i64 0), .d (.int .i64 0), .nils]), .box (.st [.d (.str nm), .d (.int .i64 mi), .d (.int .i64 de), .d (.int .i64 ma), .own 6 0 2]), .arr 2 [TAxisPoint.D ⟨-16384, -16384⟩, p.D] true]) trA15 (by kernel_rfl) ?_ ?_
     ·(conv => whnf)
      (repeat ((fail_if_success (with_reducible apply RegD.id)); (refine stg_ ?_)))
      refine And.intro ?_ ?_ <;> (conv => whnf)
      all_goals (repeat ((fail_if_success (with_reducible apply RegD.id)); (refine stg_ ?_)))
      all_goals ((refine clr_ pO (by assumption) (by omega) ?_; rintro _ pl3 sd3 ⟨nO, rfl, hnO0, hnO⟩ hl5 hl6 hs3; (conv => whnf)))
      all_goals (repeat (first | ((with_reducible apply ApW.id); (refine ApW.at (by simp only [List.length_cons, List.length_nil]; show _ ≤ 9223372036854775807; omega) (by simp only [List.length_cons, List.length_nil]; show _ * 16 ≤ 140737488355328; omega) ?_; (conv => whnf))) | ((fail_if_success (with_reducible apply RegD.id)); (fail_if_success (with_reducible apply ApW.id)); (refine stg_ ?_))))
      all_goals (refine ⟨_, _, ⟨pl3, sd3, ⟨0 - (n16 + 1), 0 - nO⟩, by omega, by omega, hs3, rfl, rfl⟩, ?_⟩; (refine Weak.cov ?_ ?_ ?_; (focus exact cv_); (focus exact cv_); (focus rfl)))
     ·rintro e h ⟨pl3, sd3, p, hl5, hl6, hs3, rfl, rfl⟩
      (conv => whnf)
      (repeat (first | ((with_reducible apply ApW.id); (refine ApW.at (by simp only [List.length_cons, List.length_nil]; show _ ≤ 9223372036854775807; omega) (by simp only [List.length_cons, List.length_nil]; show _ * 16 ≤ 140737488355328; omega) ?_; (conv => whnf))) | ((fail_if_success (with_reducible apply RegD.id)); (fail_if_success (with_reducible apply ApW.id)); (refine stg_ ?_))))
      refine clrS_ o2 (by assumption) (by omega) (fun _ => on_res) _ ?_ H17
      rintro _ pl4 sd4 ⟨b, rfl⟩ hl7 hl8 hs4
      refine ⟨_, _, ⟨pl4, sd4, b, [⟨-16384, -16384⟩, p, ⟨0, 0⟩], by omega, by omega, hs4, by simp, rfl, rfl, rfl⟩, ?_⟩
      (refine Weak.cov ?_ ?_ ?_; (focus exact cv_); (focus exact cv_); (focus rfl))
   ·rintro v e h ⟨pl1, sd1, b, ps, hl1, hl2, hs1, hps, rfl, rfl, rfl⟩
    have hpl1 := hst0 ps
    (conv => whnf)
    cases b
    ·(conv => whnf)
     (repeat (first | ((with_reducible apply ApW.id); (refine ApW.at (by simp only [List.length_cons, List.length_nil]; show _ ≤ 9223372036854775807; omega) (by simp only [List.length_cons, List.length_nil]; show _ * 16 ≤ 140737488355328; omega) ?_; (conv => whnf))) | ((fail_if_success (with_reducible apply RegD.id)); (fail_if_success (with_reducible apply ApW.id)); (refine stg_ ?_))))
     refine ⟨_, _, .inr ⟨mi, de, ma, ps ++ [⟨16384, 16384⟩], by simp; omega, rfl, rfl⟩, ?_, pl1, sd1, _, by omega, by omega, hs1, rfl⟩
     refine ⟨⟨[some 6], ⟨by decide, hap ps ⟨16384, 16384⟩, trivial, trivial⟩, by decide, ⟨rfl, ?_⟩⟩⟩
     rw [List.length_append]
     exact rn_
    ·(conv => whnf)
     (repeat ((fail_if_success (with_reducible apply RegD.id)); (refine stg_ ?_)))
     (refine clr_ p8 (by assumption) (by omega) ?_; rintro _ pl2 sd2 ⟨n8, rfl, hn80, hn8⟩ hl3 hl4 hs2; (conv => whnf))
     (repeat ((fail_if_success (with_reducible apply RegD.id)); (refine stg_ ?_)))
     refine RegD.cutS (fun e h => ∃ pl' sd', ∃ qs : List TAxisPoint, pl ≤ pl' ∧ pl' ≤ pl + 18 ∧ stOK pl' sd' ∧ qs.length ≤ 4 ∧ e = [(0, .pB 2 [] 0), (4, .pB 4 [] 0), (5, .pB 5 [] 0), (6, .d (.int .i64 16384))] ∧ h = [.gone, .gho k s g 4 t, .box (.d (srcR cc pl' sd')), .keep [(0, .d (.lst (code.map bD)))] (fun _ => cc), .box (.st [.d (.str .empty), .d (.int .i64 0), .d (.int .i64 0), .d (.int .i64 0), .nils]), .box (.st [.d (.str nm), .d (.int .i64 mi), .d (.int .i64 de), .d (.int .i64 ma), .own 6 0 qs.length]), .arr 2 (qs.map TAxisPoint.D) true]) trA19 (by kernel_rfl) ?_ ?_
     ·(conv => whnf)
      (repeat ((fail_if_success (with_reducible apply RegD.id)); (refine stg_ ?_)))
      refine And.intro ?_ ?_ <;> (conv => whnf)
      all_goals (repeat ((fail_if_success (with_reducible apply RegD.id)); (refine stg_ ?_)))
      all_goals ((refine clr_ pO (by assumption) (by omega) ?_; rintro _ pl3 sd3 ⟨nO, rfl, hnO0, hnO⟩ hl5 hl6 hs3; (conv => whnf)))
      all_goals (repeat (first | ((with_reducible apply ApW.id); (refine ApW.at (by simp only [List.length_cons, List.length_nil]; show _ ≤ 9223372036854775807; omega) (by simp only [List.length_cons, List.length_nil]; show _ * 16 ≤ 140737488355328; omega) ?_; (conv => whnf))) | ((fail_if_success (with_reducible apply RegD.id)); (fail_if_success (with_reducible apply ApW.id)); (refine stg_ ?_))))
      all_goals (refine ⟨_, _, ⟨pl3, sd3, ps ++ [⟨n8 + 1, nO⟩], by omega, by omega, hs3, by simp; omega, rfl, rfl⟩, ?_⟩)
      all_goals rw [List.length_append]
      all_goals (refine Weak.cov ?_ ?_ ?_)
      all_goals first | (refine ⟨trivial, rfl, rfl, rfl, rfl, rfl, Option.some.inj (hap ps ⟨n8 + 1, nO⟩), trivial⟩) | (focus ((repeat' (first | exact trivial | with_reducible rfl | (refine ⟨?_, ?_⟩) | rfl)); done)) | rfl
     ·rintro e h ⟨pl3, sd3, qs, hl5, hl6, hs3, hqs, rfl, rfl⟩
      have hpq := hst0 qs
      (conv => whnf)
      (repeat (first | ((with_reducible apply ApW.id); (refine ApW.at (by simp only [List.length_cons, List.length_nil]; show _ ≤ 9223372036854775807; omega) (by simp only [List.length_cons, List.length_nil]; show _ * 16 ≤ 140737488355328; omega) ?_; (conv => whnf))) | ((fail_if_success (with_reducible apply RegD.id)); (fail_if_success (with_reducible apply ApW.id)); (refine stg_ ?_))))
      refine ⟨_, _, .inr ⟨mi, de, ma, qs ++ [⟨16384, 16384⟩], by simp; omega, rfl, rfl⟩, ?_, pl3, sd3, _, by omega, by omega, hs3, rfl⟩
      refine ⟨⟨[some 6], ⟨by decide, hap qs ⟨16384, 16384⟩, trivial, trivial⟩, by decide, ⟨rfl, ?_⟩⟩⟩
      rw [List.length_append]
      exact rn_
  ·(conv => whnf)
   (repeat ((fail_if_success (with_reducible apply RegD.id)); (refine stg_ ?_)))
   refine ⟨_, _, .inl ⟨mi, de, ma, rfl, rfl⟩, ?_, pl1, sd1, _, by omega, by omega, hs1, rfl⟩
   refine ⟨⟨[], trivial, by decide, ⟨rfl, ?_⟩⟩⟩
   exact rn_
def PeQ (v : V) (bs : List Blk) : Prop := ∃ p : TPeak, v = .d p.D ∧ bs = []
set_option maxHeartbeats 4000000 in
theorem l30DrawPeak_z (code : List UInt8) : PZ Tryz.prog 49 (code.map bD) 10 [] PeQ := by
 refine pz_intro ttOk (by kernel_rfl) Tryz.func49 rfl (by kernel_rfl) (by kernel_rfl) (by rfl) (by rfl) (fun k s g t cc pl sd hw hst hpl => ?_)
 have c5 := pick_e code 5
 have c9 := pick_e code 9
 have cK := pick_e code 5000
 (conv => whnf)
 (repeat (refine stg_ ?_))
 (refine clr_ c5 (by assumption) (by omega) ?_; rintro _ pl1 sd1 ⟨n, rfl, hn0, hn⟩ hl1 hl2 hs1; (conv => whnf))
 (repeat (refine stg_ ?_))
 (refine br_ (fun h0 => ?_) (fun h0 => ?_))
 ·(repeat (refine stg_ ?_))
  refine ⟨_, _, ⟨⟨0, 16384, 16384⟩, rfl, rfl⟩, ?_, pl1, sd1, _, by omega, by omega, hs1, rfl⟩
  refine RetOK.d rfl rfl ?_
  (conv => whnf)
  exact ⟨_, rfl, _, _, rfl, rfl, _, _, rfl, rfl, _, _, rfl, rfl, rfl⟩
 (conv => whnf)
 (refine br_ (fun h1 => ?_) (fun h1 => ?_))
 ·(repeat (refine stg_ ?_))
  refine ⟨_, _, ⟨⟨0 - 16384, 0 - 16384, 0⟩, rfl, rfl⟩, ?_, pl1, sd1, _, by omega, by omega, hs1, rfl⟩
  refine RetOK.d rfl rfl ?_
  (conv => whnf)
  exact ⟨_, rfl, _, _, rfl, rfl, _, _, rfl, rfl, _, _, rfl, rfl, rfl⟩
 (conv => whnf)
 (refine br_ (fun h2 => ?_) (fun h2 => ?_))
 ·(repeat (refine stg_ ?_))
  refine ArW.i64 (by decide) ?_
  (conv => whnf)
  (repeat (refine stg_ ?_))
  refine ⟨_, _, ⟨⟨0, Int.tdiv 16384 2, 16384⟩, rfl, rfl⟩, ?_, pl1, sd1, _, by omega, by omega, hs1, rfl⟩
  refine RetOK.d rfl rfl ?_
  (conv => whnf)
  exact ⟨_, rfl, _, _, rfl, rfl, _, _, rfl, rfl, _, _, rfl, rfl, rfl⟩
 (conv => whnf)
 (refine br_ (fun h3 => ?_) (fun h3 => ?_))
 ·(repeat (refine stg_ ?_))
  (refine clr_ c9 (by assumption) (by omega) ?_; rintro _ pl2 sd2 ⟨a, rfl, ha0, ha⟩ hl3 hl4 hs2; (conv => whnf))
  (repeat (refine stg_ ?_))
  (refine clr_ c9 (by assumption) (by omega) ?_; rintro _ pl3 sd3 ⟨b, rfl, hb0, hb⟩ hl5 hl6 hs3; (conv => whnf))
  (repeat (refine stg_ ?_))
  refine ⟨_, _, ⟨⟨0 - a, 0, b⟩, rfl, rfl⟩, ?_, pl3, sd3, _, by omega, by omega, hs3, rfl⟩
  refine RetOK.d rfl rfl ?_
  (conv => whnf)
  exact ⟨_, rfl, _, _, rfl, rfl, _, _, rfl, rfl, _, _, rfl, rfl, rfl⟩
 (repeat (refine stg_ ?_))
 (refine clr_ cK (by assumption) (by omega) ?_; rintro _ pl2 sd2 ⟨a, rfl, ha0, ha⟩ hl3 hl4 hs2; (conv => whnf))
 (repeat (refine stg_ ?_))
 (refine clr_ cK (by assumption) (by omega) ?_; rintro _ pl3 sd3 ⟨b, rfl, hb0, hb⟩ hl5 hl6 hs3; (conv => whnf))
 (repeat (refine stg_ ?_))
 (refine clr_ cK (by assumption) (by omega) ?_; rintro _ pl4 sd4 ⟨c, rfl, hc0, hc⟩ hl7 hl8 hs4; (conv => whnf))
 (repeat (refine stg_ ?_))
 refine ⟨_, _, ⟨⟨a, a + b, a + b + c⟩, rfl, rfl⟩, ?_, pl4, sd4, _, by omega, by omega, hs4, rfl⟩
 refine RetOK.d rfl rfl ?_
 (conv => whnf)
 exact ⟨_, rfl, _, _, rfl, rfl, _, _, rfl, rfl, _, _, rfl, rfl, rfl⟩
def DlQ (v : V) (bs : List Blk) : Prop := ∃ xs : List TAxis, xs.length ≤ 3 ∧ v = .own 1 0 xs.length ∧ bs = [.arr 5 (xs.map TAxis.D) true]
set_option maxHeartbeats 4000000 in
theorem l29DrawList_z (code : List UInt8) : PZ Tryz.prog 48 (code.map bD) 70 [] DlQ := by
 refine pz_intro ttOk (by kernel_rfl) Tryz.func48 rfl (by kernel_rfl) (by kernel_rfl) (by rfl) (by rfl) (fun k s0 g t cc pl sd hw hst hpl => ?_)
 have o3 := one_e code 3
 have hnm : ∀ k : Nat, k < 3 → ∃ nm : ByteArray, ([.str ⟨#[119, 103, 104, 116]⟩, .str ⟨#[119, 100, 116, 104]⟩, .str ⟨#[111, 112, 115, 122]⟩] : List D)[k]? = some (.str nm) := fun k hk => by
  obtain rfl | rfl | rfl : k = 0 ∨ k = 1 ∨ k = 2 := by omega
  all_goals exact ⟨_, rfl⟩
 (conv => whnf)
 (repeat (refine stg_ ?_))
 generalize hNN : ([.str ⟨#[119, 103, 104, 116]⟩, .str ⟨#[119, 100, 116, 104]⟩, .str ⟨#[111, 112, 115, 122]⟩] : List D) = NN at hnm
 have hNl : NN.length = 3 := by rw [← hNN]; rfl
 refine LoopW.go (α := Int × Int × Nat × List TAxis) (fun p => [(0, .pB 2 [] 0), (3, .own 4 0 p.2.2.2.length), (4, .own 5 0 3), (5, .d (.int .i64 p.2.2.1))]) (fun p => [.gone, .gho k s0 g 4 t, .box (.d (srcR cc p.1 p.2.1)), .keep [(0, .d (.lst (code.map bD)))] (fun _ => cc), .arr 5 (p.2.2.2.map TAxis.D) true, .arr 1 NN true])
  (fun p => pl ≤ p.1 ∧ p.1 ≤ pl + 22 * p.2.2.1 ∧ stOK p.1 p.2.1 ∧ p.2.2.1 ≤ 3 ∧ p.2.2.2.length ≤ p.2.2.1) (fun p => 3 - p.2.2.1) (pl, sd, 0, []) (Weak.cov ?_ ?_ ?_) ⟨by dsimp only; omega, by dsimp only; omega, by assumption, by dsimp only; omega, by simp⟩ ?_
 ·exact cv_
 ·exact cv_
 ·rfl
 rintro ⟨pl3, sd3, j, xs⟩ ⟨k1, k2, k3, k4, k5⟩
 dsimp only at k1 k2 k3 k4 k5 ⊢
 have hL : (xs.map TAxis.D).length = xs.length := List.length_map _
 (conv => whnf)
 (repeat (refine stg_ ?_))
 (refine br_ (fun h1 => ?_) (fun h1 => ?_))
 ·obtain ⟨nm, he⟩ := hnm j (by omega)
  have cN := l29Draw_z code nm
  (repeat (refine stg_ ?_))
  (refine clr_ o3 (by assumption) (by omega) ?_; rintro _ pl4 sd4 ⟨b, rfl⟩ hl5 hl6 hs4; (conv => whnf))
  cases b
  rotate_left
  ·(conv => whnf)
   (repeat (refine stg_ ?_))
   refine NextW.go (pl4, sd4, j + 1, xs) covT_ ⟨by dsimp only; omega, by dsimp only; omega, hs4, by dsimp only; omega, by dsimp only; omega⟩ (by dsimp only; omega)
  ·(conv => whnf)
   (repeat (refine stg_ ?_))
   have hap : ∀ a : TAxis, Blk.arr 5 ((xs.map TAxis.D).take xs.length ++ [a.D]) true = Blk.arr 5 ((xs ++ [a]).map TAxis.D) true := fun a => by
    rw [List.take_of_length_le (by omega), List.map_append]; rfl
   (refine clzr_ cN (by assumption) (by omega) ?_; rintro v bs pl5 sd5 (⟨mi, de, ma, rfl, rfl⟩ | ⟨mi, de, ma, ps, hps, rfl, rfl⟩) hl7 hl8 hs5 <;> refine ⟨rfl, ?_⟩ <;> (conv => whnf))
   ·(repeat (refine stg_ ?_))
    refine NextW.go (pl5, sd5, j + 1, xs ++ [⟨nm, mi, de, ma, []⟩]) (Weak.cov ?_ ?_ ?_) ⟨by dsimp only; omega, by dsimp only; omega, hs5, by dsimp only; omega, by simp; omega⟩ (by dsimp only; omega)
    ·refine ⟨rfl, ?_, rfl, rfl, trivial⟩
     dsimp only
     rw [List.length_append]; rfl
    ·(repeat' (first | exact trivial | with_reducible rfl | with_reducible exact hap ⟨nm, mi, de, ma, []⟩ | (refine ⟨?_, ?_⟩) | exact hap ⟨nm, mi, de, ma, []⟩ | rfl))
    ·rfl
   ·have hLp : (ps.map TAxisPoint.D).length = ps.length := List.length_map _
    (repeat (refine stg_ ?_))
    refine NextW.go (pl5, sd5, j + 1, xs ++ [⟨nm, mi, de, ma, ps⟩]) (Weak.cov ?_ ?_ ?_) ⟨by dsimp only; omega, by dsimp only; omega, hs5, by dsimp only; omega, by simp; omega⟩ (by dsimp only; omega)
    ·refine ⟨rfl, ?_, rfl, rfl, trivial⟩
     dsimp only
     rw [List.length_append]; rfl
    ·(repeat' (first | exact trivial | with_reducible rfl | with_reducible exact hap ⟨nm, mi, de, ma, ps⟩ | (refine ⟨?_, ?_⟩) | exact hap ⟨nm, mi, de, ma, ps⟩ | rfl))
    ·rfl
 ·(repeat (refine stg_ ?_))
  refine ⟨_, _, ⟨xs, by omega, rfl, rfl⟩, ?_, pl3, sd3, _, by omega, by omega, k3, rfl⟩
  refine ⟨⟨[some 4], ⟨by decide, rfl, trivial, trivial⟩, by decide, ⟨rfl, ?_⟩⟩⟩
  exact rn_
theorem l30CountB_v (o : TOutline) (hC : cnK o.fLoops ≤ 1000000) (hl1 : o.fLoops.length ≤ 1000000) : PC Tryz.prog 54 [.pX o.D] (.d (.int .i64 (cnK o.fLoops : Nat))) [] := by
 refine pc_intro ttOk (by kernel_rfl) Tryz.func54 rfl (by kernel_rfl) (by kernel_rfl) (by kernel_rfl) (fun hw => ?_)
 have hL : (o.fLoops.map TLoop.D).length = o.fLoops.length := List.length_map _
 (conv => whnf)
 (repeat (refine stg_ ?_))
 refine LoopW.go (α := Nat) (fun k => [(0, .pX o.D), (3, .d (.int .i64 (cnK (o.fLoops.take k) : Nat))), (4, .d (.int .i64 k))]) (fun _ => [.gone]) (fun k => k ≤ o.fLoops.length) (fun k => o.fLoops.length - k) 0 covT_ (by omega) (fun k hk => ?_)
 have hT := cnK_take o.fLoops k
 (conv => whnf)
 (refine br_ (fun h1 => ?_) (fun h1 => ?_))
 ·obtain ⟨l, hl⟩ := at_lt' (xs := o.fLoops) (k := k) (by omega)
  have hS : cnK (o.fLoops.take (k + 1)) = cnK (o.fLoops.take k) + l.fKnots.length := by rw [take_snoc_get hl, cnK_snoc]
  have hLk : (l.fKnots.map TKnot.D).length = l.fKnots.length := List.length_map _
  have hT2 := cnK_take o.fLoops (k + 1)
  (repeat (refine stg_ ?_))
  refine NextW.go (k + 1) (Weak.cov ⟨rfl, ?_, rfl, trivial⟩ ⟨trivial, trivial⟩ rfl) (by omega) (by omega)
  rw [hS, ← hLk]; rfl
 ·(repeat (refine stg_ ?_))
  (refine RetOK.d rfl rfl ?_; conv => whnf)
  rw [List.take_of_length_le (by omega)]
def trDD : OT := .q 0 (.q 2 (.alt 1 (.alt 3 (.alt 4 (.alt 5 (.q 6 (.alt 7 .done .nil)) .nil) .nil) .nil) (.alt 3 (.q 1 (.alt 4 (.alt 5 (.q 6 (.alt 7 .done .nil)) .nil) .nil)) .nil)))
def DdQ (gl : Int) (m : Nat) (v : V) (bs : List Blk) : Prop := ∃ (ks : List Int) (ms : List TPt) (ad : Int), ks.length ≤ m ∧ ms.length = ks.length ∧ v = .st [.d (.int .i64 gl), .own 1 0 ks.length, .own 2 0 ms.length, .d (.int .i64 ad)] ∧ bs = [.arr 1 (ks.map (D.int .i64)) true, .arr 2 (ms.map TPt.D) true]
set_option maxHeartbeats 4000000 in
theorem l30DrawDelta_z (code : List UInt8) (x : TGlyph) (gl : Int) (hx : cnK x.fOutline.fLoops ≤ 100) (hl : x.fOutline.fLoops.length ≤ 100) : PZX Tryz.prog 51 (code.map bD) 1300 [.pX x.D, .d (.int .i64 gl)] (DdQ gl (cnK x.fOutline.fLoops)) := by
 refine pzx_intro ttOk (by kernel_rfl) Tryz.func51 rfl (by kernel_rfl) (by kernel_rfl) (by rfl) (by rfl) (fun k s0 g t cc pl sd hw hst hpl => ?_)
 have o3 := one_e code 3
 have p1 := pick_e code 101
 have cP := l03Draw_z code 60 (by omega) (by omega)
 have cC := l30CountB_v x.fOutline (by omega) (by omega)
 (conv => whnf)
 (repeat (refine stg_ ?_))
 (refine clr_ p1 (by assumption) (by omega) ?_; rintro _ pl1 sd1 ⟨n, rfl, hn0, hn⟩ hl1 hl2 hs1; (conv => whnf))
 repeat' (first | ((fail_if_success (with_reducible apply RegD.id)); (refine stg_ ?_)) | (refine cla_ (cC) ?_))
 refine LoopW.go (α := Int × Int × Nat × List Int × List TPt) (fun p => [(0, .pB 2 [] 0), (6, .pB 4 [] 0), (7, .pB 5 [] 0), (8, .d (.int .i64 ((cnK x.fOutline.fLoops : Nat) : Int))), (9, .d (.int .i64 p.2.2.1))]) (fun p => [.gone, .gho k s0 g 4 t, .box (.d (srcR cc p.1 p.2.1)), .keep [(0, .d (.lst (code.map bD)))] (fun _ => cc), .box (.st [.d (.int .i64 0), .nils, .nils, .d (.int .i64 0)]), .box (.st [.d (.int .i64 gl), .own 6 0 p.2.2.2.1.length, .own 7 0 p.2.2.2.2.length, .d (.int .i64 (n - 50))]), .arr 1 (p.2.2.2.1.map (D.int .i64)) true, .arr 2 (p.2.2.2.2.map TPt.D) true])
  (fun p => pl ≤ p.1 ∧ p.1 ≤ pl + 2 + 12 * p.2.2.1 ∧ stOK p.1 p.2.1 ∧ p.2.2.1 ≤ cnK x.fOutline.fLoops ∧ p.2.2.2.1.length ≤ p.2.2.1 ∧ p.2.2.2.2.length = p.2.2.2.1.length) (fun p => cnK x.fOutline.fLoops - p.2.2.1) (pl1, sd1, 0, [], [])
  (Weak.trans (Weak.adoptM 5 [.d (.int .i64 gl)] [.nils, .d (.int .i64 (n - 50))] rfl rfl 1 true) (Weak.trans (Weak.adoptM 5 [.d (.int .i64 gl), .own 6 0 0] [.d (.int .i64 (n - 50))] rfl rfl 2 true) (Weak.cov ?_ ?_ ?_))) ⟨by dsimp only; omega, by dsimp only; omega, by assumption, by dsimp only; omega, by simp, by simp⟩ ?_
 ·exact cv_
 ·exact cv_
 ·rfl
 rintro ⟨pl3, sd3, j, ns, ms⟩ ⟨k1, k2, k3, k4, k5, k6⟩
 dsimp only at k1 k2 k3 k4 k5 k6 ⊢
 have hLn : (ns.map (D.int .i64)).length = ns.length := List.length_map _
 have hLm : (ms.map TPt.D).length = ms.length := List.length_map _
 have hapn : ∀ y : Int, Blk.arr 1 ((ns.map (D.int .i64)).take ns.length ++ [D.int .i64 y]) true = Blk.arr 1 ((ns ++ [y]).map (D.int .i64)) true := fun y => by
  rw [List.take_of_length_le (by omega), List.map_append]; rfl
 have hapm : ∀ y : TPt, Blk.arr 2 ((ms.map TPt.D).take ms.length ++ [y.D]) true = Blk.arr 2 ((ms ++ [y]).map TPt.D) true := fun y => by
  rw [List.take_of_length_le (by omega), List.map_append]; rfl
 (conv => whnf)
 (repeat (refine stg_ ?_))
 (refine br_ (fun h1 => ?_) (fun h1 => ?_))
 rotate_left
 ·(repeat (refine stg_ ?_))
  refine ⟨_, _, ⟨ns, ms, n - 50, by omega, k6, rfl, rfl⟩, ?_, pl3, sd3, _, by omega, by omega, k3, rfl⟩
  refine ⟨⟨[some 6, some 7], ⟨by decide, rfl, trivial, by decide, rfl, trivial, trivial⟩, by decide, ⟨rfl, ?_⟩⟩⟩
  exact rn_
 (repeat (refine stg_ ?_))
 (refine clr_ o3 (by assumption) (by omega) ?_; rintro _ pl4 sd4 ⟨b, rfl⟩ hl5 hl6 hs4; (conv => whnf))
 (repeat (refine stg_ ?_))
 cases b
 ·(conv => whnf)
  (repeat (refine stg_ ?_))
  refine NextW.go (pl4, sd4, j + 1, ns, ms) covT_ ⟨by dsimp only; omega, by dsimp only; omega, hs4, by dsimp only; omega, by dsimp only; omega, by dsimp only; omega⟩ (by dsimp only; omega)
 (conv => whnf)
 (repeat ((fail_if_success (with_reducible apply RegD.id)); (refine stg_ ?_)))
 refine RegD.cutS (fun e h => ∃ pl' sd', ∃ p : TPt, pl4 ≤ pl' ∧ pl' ≤ pl4 + 10 ∧ stOK pl' sd' ∧ e = [(0, .pB 2 [] 0), (6, .pB 4 [] 0), (7, .pB 5 [] 0), (8, .d (.int .i64 ((cnK x.fOutline.fLoops : Nat) : Int))), (9, .d (.int .i64 ((j : Nat) : Int)))] ∧ h = [.gone, .gho k s0 g 4 t, .box (.d (srcR cc pl' sd')), .keep [(0, .d (.lst (code.map bD)))] (fun _ => cc), .box (.st [.d (.int .i64 0), .nils, .nils, .d (.int .i64 0)]), .box (.st [.d (.int .i64 gl), .own 6 0 (ns ++ [(j : Int)]).length, .own 7 0 (ms ++ [p]).length, .d (.int .i64 (n - 50))]), .arr 1 ((ns ++ [(j : Int)]).map (D.int .i64)) true, .arr 2 ((ms ++ [p]).map TPt.D) true]) trDD (by kernel_rfl) ?_ ?_
 ·(conv => whnf)
  (repeat ((fail_if_success (with_reducible apply RegD.id)); (refine stg_ ?_)))
  refine And.intro ?_ ?_ <;> (conv => whnf)
  all_goals (repeat ((fail_if_success (with_reducible apply RegD.id)); (refine stg_ ?_)))
  all_goals ((refine clzr_ cP (by assumption) (by omega) ?_; rintro v bs pl5 sd5 ⟨p, rfl, rfl⟩ y1 y2 y3 <;> refine ⟨rfl, ?_⟩ <;> (conv => whnf)))
  all_goals (repeat (first | ((with_reducible apply ApW.id); (refine ApW.at (by simp only [List.length_cons, List.length_nil]; show _ ≤ 9223372036854775807; omega) (by simp only [List.length_cons, List.length_nil]; show _ * 16 ≤ 140737488355328; omega) ?_; (conv => whnf))) | ((fail_if_success (with_reducible apply RegD.id)); (fail_if_success (with_reducible apply ApW.id)); (refine stg_ ?_))))
  all_goals (refine ⟨_, _, ⟨pl5, sd5, p, by omega, by omega, y3, rfl, rfl⟩, ?_⟩)
  all_goals rw [show (ns ++ [(j : Int)]).length = ns.length + 1 from by simp, show (ms ++ [p]).length = ms.length + 1 from by simp]
  all_goals (refine Weak.cov ?_ ?_ ?_)
  all_goals first | (focus ((repeat' (first | exact trivial | with_reducible rfl | with_reducible exact hapn _ | with_reducible exact hapm _ | (refine ⟨?_, ?_⟩) | exact hapn _ | exact hapm _ | rfl)); done)) | rfl
 ·rintro e h ⟨pl5, sd5, p, y1, y2, y3, rfl, rfl⟩
  (conv => whnf)
  (repeat (refine stg_ ?_))
  refine NextW.go (pl5, sd5, j + 1, ns ++ [(j : Int)], ms ++ [p]) covT_ ⟨by dsimp only; omega, by dsimp only; omega, y3, by dsimp only; omega, by simp; omega, by simp; omega⟩ (by dsimp only; omega)
def trV8 : OT := .q 0 (.q 2 (.alt 1 (.alt 3 (.alt 4 (.alt 5 (.q 6 (.alt 7 .done .nil)) .nil) .nil) .nil) (.alt 3 (.q 1 (.alt 4 (.alt 5 (.q 6 (.alt 7 .done .nil)) .nil) .nil)) .nil)))
def trV14 : OT := .q 0 (.q 2 (.q 3 (.q 4 (.q 5 (.q 6 (.q 7 (.q 8 (.q 9 (.alt 1 (.alt 10 (.alt 11 (.alt 12 (.q 13 (.alt 14 .done .nil)) .nil) .nil) .nil) (.alt 10 (.q 1 (.alt 11 (.alt 12 (.q 13 (.alt 14 .done .nil)) .nil) .nil)) .nil))))))))))
structure DvV (m : Nat) (v : TVariation) : Prop where
 la : v.fAxes.length ≤ 3
 lm : v.fMasters.length ≤ 3
 ld : ∀ x ∈ v.fMasters, x.fPeaks.length ≤ 3 ∧ x.fDeltas.length ≤ m ∧ ∀ y ∈ x.fDeltas, y.fKnots.length ≤ 100 ∧ y.fMoves.length = y.fKnots.length
def DvQ (m : Nat) (v : V) (bs : List Blk) : Prop := ∃ x : TVariation, DvV m x ∧ v = .st [.own 1 0 x.fAxes.length, .own 2 0 x.fMasters.length] ∧ bs = [.arr 5 (x.fAxes.map TAxis.D) true, .arr 2 (x.fMasters.map TMaster.D) true]
set_option maxHeartbeats 4000000 in
theorem l30Draw_z (code : List UInt8) (x : TGlyphSet) (hx : x.fGlyphs.length ≤ 4) (hc : ∀ y ∈ x.fGlyphs, cnK y.fOutline.fLoops ≤ 100 ∧ y.fOutline.fLoops.length ≤ 100) : PZX Tryz.prog 17 (code.map bD) 17000 [.pX x.D] (DvQ x.fGlyphs.length) := by
 refine pzx_intro ttOk (by kernel_rfl) Tryz.func17 rfl (by kernel_rfl) (by kernel_rfl) (by rfl) (by rfl) (fun k s0 g t cc pl sd hw hst hpl => ?_)
 have cL := l29DrawList_z code
 have p4 := pick_e code 4
 have o2 := one_e code 2
 have cP := l30DrawPeak_z code
 have hLg : (x.fGlyphs.map TGlyph.D).length = x.fGlyphs.length := List.length_map _
 (conv => whnf)
 (repeat (refine stg_ ?_))
 (refine clzr_ cL (by assumption) (by omega) ?_; rintro v bs pl1 sd1 ⟨xs, hxs, rfl, rfl⟩ hl1 hl2 hs1 <;> refine ⟨rfl, ?_⟩ <;> (conv => whnf))
 have hLx : (xs.map TAxis.D).length = xs.length := List.length_map _
 (repeat (refine stg_ ?_))
 (refine clr_ p4 (by assumption) (by omega) ?_; rintro _ pl2 sd2 ⟨n, rfl, hn0, hn⟩ hl3 hl4 hs2; (conv => whnf))
 (repeat (refine stg_ ?_))
 refine LoopW.go (α := Int × Int × Int × List TMaster) (fun p => [(0, .pB 2 [] 0), (1, .pX x.D), (4, .pB 4 [] 0), (5, .pB 6 [] 0), (6, .d (.int .i64 p.2.2.1))]) (fun p => [.gone, .gho k s0 g 4 t, .box (.d (srcR cc p.1 p.2.1)), .keep [(0, .d (.lst (code.map bD)))] (fun _ => cc), .box (.st [.nils, .nils]), .arr 5 (xs.map TAxis.D) true, .box (.st [.own 5 0 xs.length, .own 7 0 p.2.2.2.length]), .arr 2 (p.2.2.2.map TMaster.D) true])
  (fun p => pl ≤ p.1 ∧ p.1 ≤ pl + 72 + 5400 * p.2.2.2.length ∧ stOK p.1 p.2.1 ∧ 0 ≤ p.2.2.1 ∧ p.2.2.1 + p.2.2.2.length = n ∧ (∀ y ∈ p.2.2.2, y.fPeaks.length ≤ 3 ∧ y.fDeltas.length ≤ x.fGlyphs.length ∧ ∀ z ∈ y.fDeltas, z.fKnots.length ≤ 100 ∧ z.fMoves.length = z.fKnots.length)) (fun p => p.2.2.1.toNat) (pl2, sd2, n, []) (Weak.trans (Weak.adoptM 6 [.own 5 0 xs.length] [] rfl rfl 2 true) (Weak.cov ?_ ?_ ?_)) ⟨by dsimp only; omega, by dsimp only [List.length_nil]; omega, hs2, by dsimp only; omega, by simp, by simp⟩ ?_
 ·exact cv_
 ·exact cv_
 ·rfl
 rintro ⟨pl3, sd3, c, ms⟩ ⟨k1, k2, k3, k4, k5, k6⟩
 dsimp only at k1 k2 k3 k4 k5 k6 ⊢
 have hLm : (ms.map TMaster.D).length = ms.length := List.length_map _
 (conv => whnf)
 (repeat (refine stg_ ?_))
 (refine br_ (fun h1 => ?_) (fun h1 => ?_))
 rotate_left
 ·(repeat (refine stg_ ?_))
  refine ⟨_, _, ⟨⟨xs, ms⟩, ⟨by dsimp only; omega, by dsimp only; omega, k6⟩, rfl, rfl⟩, ?_, pl3, sd3, _, by omega, by omega, k3, rfl⟩
  refine ⟨⟨[some 5, some 7], ⟨by decide, rfl, trivial, by decide, rfl, trivial, trivial⟩, by decide, ⟨rfl, ?_⟩⟩⟩
  exact rn_
 (repeat (refine stg_ ?_))
 refine LoopW.go (α := Int × Int × Nat × List TPeak) (fun p => [(0, .pB 2 [] 0), (1, .pX x.D), (4, .pB 4 [] 0), (5, .pB 6 [] 0), (6, .d (.int .i64 c)), (7, .pB 8 [] 0), (21, .d (.int .i64 ((xs.length : Nat) : Int))), (22, .d (.int .i64 p.2.2.1))]) (fun p => [.gone, .gho k s0 g 4 t, .box (.d (srcR cc p.1 p.2.1)), .keep [(0, .d (.lst (code.map bD)))] (fun _ => cc), .box (.st [.nils, .nils]), .arr 5 (xs.map TAxis.D) true, .box (.st [.own 5 0 xs.length, .own 7 0 ms.length]), .arr 2 (ms.map TMaster.D) true, .box (.st [.own 9 0 p.2.2.2.length, .nils]), .arr 3 (p.2.2.2.map TPeak.D) true])
  (fun p => pl3 ≤ p.1 ∧ p.1 ≤ pl3 + 10 * p.2.2.1 ∧ stOK p.1 p.2.1 ∧ p.2.2.1 ≤ xs.length ∧ p.2.2.2.length = p.2.2.1) (fun p => xs.length - p.2.2.1) (pl3, sd3, 0, []) (Weak.trans (Weak.adoptM 8 [] [.nils] rfl rfl 3 true) (Weak.cov ?_ ?_ ?_)) ⟨by dsimp only; omega, by dsimp only; omega, k3, by dsimp only; omega, rfl⟩ ?_
 ·refine ⟨rfl, rfl, rfl, rfl, rfl, rfl, ?_, rfl, trivial⟩
  rw [← hLx]; rfl
 ·exact cv_
 ·rfl
 rintro ⟨pl4, sd4, j, ps⟩ ⟨j1, j2, j3, j4, j5⟩
 dsimp only at j1 j2 j3 j4 j5 ⊢
 have hLp : (ps.map TPeak.D).length = ps.length := List.length_map _
 (conv => whnf)
 (repeat (refine stg_ ?_))
 (refine br_ (fun h2 => ?_) (fun h2 => ?_))
 ·have hap : ∀ y : TPeak, Blk.arr 3 ((ps.map TPeak.D).take ps.length ++ [y.D]) true = Blk.arr 3 ((ps ++ [y]).map TPeak.D) true := fun y => by
   rw [List.take_of_length_le (by omega), List.map_append]; rfl
  (repeat ((fail_if_success (with_reducible apply RegD.id)); (refine stg_ ?_)))
  refine RegD.cutS (fun e h => ∃ pl' sd', ∃ y : TPeak, pl4 ≤ pl' ∧ pl' ≤ pl4 + 10 ∧ stOK pl' sd' ∧ e = [(0, .pB 2 [] 0), (1, .pX x.D), (4, .pB 4 [] 0), (5, .pB 6 [] 0), (6, .d (.int .i64 c)), (7, .pB 8 [] 0), (21, .d (.int .i64 ((xs.length : Nat) : Int))), (22, .d (.int .i64 j))] ∧ h = [.gone, .gho k s0 g 4 t, .box (.d (srcR cc pl' sd')), .keep [(0, .d (.lst (code.map bD)))] (fun _ => cc), .box (.st [.nils, .nils]), .arr 5 (xs.map TAxis.D) true, .box (.st [.own 5 0 xs.length, .own 7 0 ms.length]), .arr 2 (ms.map TMaster.D) true, .box (.st [.own 9 0 (ps ++ [y]).length, .nils]), .arr 3 ((ps ++ [y]).map TPeak.D) true]) trV8 (by kernel_rfl) ?_ ?_
  ·(conv => whnf)
   (repeat ((fail_if_success (with_reducible apply RegD.id)); (refine stg_ ?_)))
   refine And.intro ?_ ?_ <;> (conv => whnf)
   all_goals (repeat ((fail_if_success (with_reducible apply RegD.id)); (refine stg_ ?_)))
   all_goals ((refine clzr_ cP (by assumption) (by omega) ?_; rintro v bs pl5 sd5 ⟨y, rfl, rfl⟩ y1 y2 y3 <;> refine ⟨rfl, ?_⟩ <;> (conv => whnf)))
   all_goals (repeat (first | ((with_reducible apply ApW.id); (refine ApW.at (by simp only [List.length_cons, List.length_nil]; show _ ≤ 9223372036854775807; omega) (by simp only [List.length_cons, List.length_nil]; show _ * 24 ≤ 140737488355328; omega) ?_; (conv => whnf))) | ((fail_if_success (with_reducible apply RegD.id)); (fail_if_success (with_reducible apply ApW.id)); (refine stg_ ?_))))
   all_goals (refine ⟨_, _, ⟨pl5, sd5, y, by omega, by omega, y3, rfl, rfl⟩, ?_⟩)
   all_goals rw [List.length_append]
   all_goals (refine Weak.cov ?_ ?_ ?_)
   all_goals first | (focus ((repeat' (first | exact trivial | with_reducible rfl | with_reducible exact hap _ | (refine ⟨?_, ?_⟩) | exact hap _ | rfl)); done)) | rfl
  ·rintro e h ⟨pl5, sd5, y, y1, y2, y3, rfl, rfl⟩
   (conv => whnf)
   (repeat (refine stg_ ?_))
   refine NextW.go (pl5, sd5, j + 1, ps ++ [y]) covT_ ⟨by dsimp only; omega, by dsimp only; omega, y3, by dsimp only; omega, by simp; omega⟩ (by dsimp only; omega)
 (repeat (refine stg_ ?_))
 obtain rfl : j = xs.length := by omega
 refine LoopW.go (α := Int × Int × Nat × List TGlyphDelta) (fun p => [(0, .pB 2 [] 0), (1, .pX x.D), (4, .pB 4 [] 0), (5, .pB 6 [] 0), (6, .d (.int .i64 c)), (7, .pB 8 [] 0), (8, .d (.int .i64 p.2.2.1))]) (fun p => [.gone, .gho k s0 g 4 t, .box (.d (srcR cc p.1 p.2.1)), .keep [(0, .d (.lst (code.map bD)))] (fun _ => cc), .box (.st [.nils, .nils]), .arr 5 (xs.map TAxis.D) true, .box (.st [.own 5 0 xs.length, .own 7 0 ms.length]), .arr 2 (ms.map TMaster.D) true, .box (.st [.own 9 0 ps.length, .own 10 0 p.2.2.2.length]), .arr 3 (ps.map TPeak.D) true, .arr 4 (p.2.2.2.map TGlyphDelta.D) true])
  (fun p => pl3 ≤ p.1 ∧ p.1 ≤ pl3 + 30 + 1302 * p.2.2.1 ∧ stOK p.1 p.2.1 ∧ p.2.2.1 ≤ x.fGlyphs.length ∧ p.2.2.2.length ≤ p.2.2.1 ∧ ∀ z ∈ p.2.2.2, z.fKnots.length ≤ 100 ∧ z.fMoves.length = z.fKnots.length) (fun p => x.fGlyphs.length - p.2.2.1) (pl4, sd4, 0, []) (Weak.trans (Weak.adoptM 8 [.own 9 0 ps.length] [] rfl rfl 4 true) (Weak.cov ?_ ?_ ?_)) ⟨by dsimp only; omega, by dsimp only; omega, j3, by dsimp only; omega, by simp, by simp⟩ ?_
 ·exact cv_
 ·exact cv_
 ·rfl
 rintro ⟨pl5, sd5, i, ds⟩ ⟨i1, i2, i3, i4, i5, i6⟩
 dsimp only at i1 i2 i3 i4 i5 i6 ⊢
 have hLd : (ds.map TGlyphDelta.D).length = ds.length := List.length_map _
 (conv => whnf)
 (repeat (refine stg_ ?_))
 (refine br_ (fun h3 => ?_) (fun h3 => ?_))
 rotate_left
 ·refine TkW.at hLp.symm ?_
  unfold tkVs
  (conv => whnf)
  refine TkW.at hLd.symm ?_
  unfold tkVs
  (conv => whnf)
  refine OffW.at (by omega) ?_
  (conv => whnf)
  refine TkW.at rfl ?_
  unfold tkVs
  (conv => whnf)
  refine ApW.at (by show ms.length + 1 ≤ 9223372036854775807; omega) (by show (ms.length + 1) * 48 ≤ 140737488355328; omega) ?_
  (conv => whnf)
  refine ArW.i64 (by omega) ?_
  (conv => whnf)
  have hapM : Blk.arr 2 ((ms.map TMaster.D).take ms.length ++ [D.st [.lst (ps.map TPeak.D), .lst (ds.map TGlyphDelta.D)]]) true = Blk.arr 2 ((ms ++ [(⟨ps, ds⟩ : TMaster)]).map TMaster.D) true := by
   rw [List.take_of_length_le (by omega), List.map_append]; rfl
  refine NextW.go (pl5, sd5, c - 1, ms ++ [⟨ps, ds⟩]) (Weak.cov ?_ ?_ ?_) ⟨by dsimp only; omega, by simp; omega, i3, by dsimp only; omega, by simp; omega, ?_⟩ (by dsimp only; omega)
  ·exact cv_
  ·rw [show (ms ++ [(⟨ps, ds⟩ : TMaster)]).length = ms.length + 1 from by simp]
   (repeat' (first | exact trivial | with_reducible rfl | with_reducible exact hapM | (refine ⟨?_, ?_⟩) | exact hapM | rfl))
  ·rfl
  intro m hm
  rcases List.mem_append.1 hm with hm | hm
  ·exact k6 m hm
  ·obtain rfl : m = ⟨ps, ds⟩ := by simpa using hm
   exact ⟨by dsimp only; omega, by dsimp only; omega, i6⟩
 obtain ⟨y, hy⟩ := at_lt' (xs := x.fGlyphs) (k := i) (by omega)
 have hey : (x.fGlyphs.map TGlyph.D)[i]? = some y.D := by rw [List.getElem?_map, hy]; rfl
 have hyc := hc y (List.mem_of_getElem? hy)
 have cD := l30DrawDelta_z code y ((i : Nat) : Int) hyc.1 hyc.2
 (repeat (refine stg_ ?_))
 (refine clr_ o2 (by assumption) (by omega) ?_; rintro _ pl6 sd6 ⟨b, rfl⟩ hl5 hl6 hs6; (conv => whnf))
 (repeat (refine stg_ ?_))
 cases b
 ·(conv => whnf)
  (repeat (refine stg_ ?_))
  refine NextW.go (pl6, sd6, i + 1, ds) covT_ ⟨by dsimp only; omega, by dsimp only; omega, hs6, by dsimp only; omega, by dsimp only; omega, i6⟩ (by dsimp only; omega)
 (conv => whnf)
 (repeat ((fail_if_success (with_reducible apply RegD.id)); (refine stg_ ?_)))
 have hapD : ∀ z : TGlyphDelta, Blk.arr 4 ((ds.map TGlyphDelta.D).take ds.length ++ [z.D]) true = Blk.arr 4 ((ds ++ [z]).map TGlyphDelta.D) true := fun z => by
  rw [List.take_of_length_le (by omega), List.map_append]; rfl
 refine RegD.cutS (fun e h => ∃ pl' sd', ∃ z : TGlyphDelta, pl6 ≤ pl' ∧ pl' ≤ pl6 + 1300 ∧ stOK pl' sd' ∧ (z.fKnots.length ≤ 100 ∧ z.fMoves.length = z.fKnots.length) ∧ e = [(0, .pB 2 [] 0), (1, .pX x.D), (4, .pB 4 [] 0), (5, .pB 6 [] 0), (6, .d (.int .i64 c)), (7, .pB 8 [] 0), (8, .d (.int .i64 ((i : Nat) : Int)))] ∧ h = [.gone, .gho k s0 g 4 t, .box (.d (srcR cc pl' sd')), .keep [(0, .d (.lst (code.map bD)))] (fun _ => cc), .box (.st [.nils, .nils]), .arr 5 (xs.map TAxis.D) true, .box (.st [.own 5 0 xs.length, .own 7 0 ms.length]), .arr 2 (ms.map TMaster.D) true, .box (.st [.own 9 0 ps.length, .own 10 0 (ds ++ [z]).length]), .arr 3 (ps.map TPeak.D) true, .arr 4 ((ds ++ [z]).map TGlyphDelta.D) true]) trV14 (by kernel_rfl) ?_ ?_
 ·(conv => whnf)
  (repeat ((fail_if_success (with_reducible apply RegD.id)); (refine stg_ ?_)))
  refine And.intro ?_ ?_ <;> (conv => whnf)
  all_goals (repeat ((fail_if_success (with_reducible apply RegD.id)); (refine stg_ ?_)))
  all_goals ((refine clzrx_ cD (by assumption) (by omega) ?_; rintro v bs pl7 sd7 ⟨ks, vs, ad, hk1, hk2, rfl, rfl⟩ y1 y2 y3 <;> refine ⟨rfl, ?_⟩ <;> (conv => whnf)))
  all_goals (repeat ((fail_if_success (with_reducible apply RegD.id)); (refine stg_ ?_)))
  all_goals (refine ⟨_, _, ⟨pl7, sd7, ⟨(i : Int), ks, vs, ad⟩, by omega, by omega, y3, ⟨by dsimp only; omega, hk2⟩, rfl, rfl⟩, ?_⟩)
  all_goals rw [show (ds ++ [(⟨(i : Int), ks, vs, ad⟩ : TGlyphDelta)]).length = ds.length + 1 from by simp]
  all_goals (refine Weak.cov ?_ ?_ ?_)
  all_goals first | (focus ((repeat' (first | exact trivial | with_reducible rfl | with_reducible exact hapD ⟨(i : Int), ks, vs, ad⟩ | (refine ⟨?_, ?_⟩) | exact hapD ⟨(i : Int), ks, vs, ad⟩ | rfl)); done)) | rfl
 ·rintro e h ⟨pl7, sd7, z, y1, y2, y3, y4, rfl, rfl⟩
  (conv => whnf)
  (repeat (refine stg_ ?_))
  refine NextW.go (pl7, sd7, i + 1, ds ++ [z]) covT_ ⟨by dsimp only; omega, by dsimp only; omega, y3, by dsimp only; omega, by simp; omega, ?_⟩ (by dsimp only; omega)
  intro m hm
  rcases List.mem_append.1 hm with hm | hm
  ·exact i6 m hm
  ·obtain rfl : m = z := by simpa using hm
   exact y4
mutual
def Frz (A : Nat) (h : List Blk) : V → D → Prop
 | .d x, y => y = x
 | .nils, y => y = .lst []
 | .own b off len, y => b ≠ A ∧ off = 0 ∧ ∃ n xs dp, h[b]? = some (.arr n xs dp) ∧ len = xs.length ∧ y = .lst xs
 | .st vs, y => ∃ ys, y = .st ys ∧ Frzs A h vs ys
 | .top, _ => False
 | .undef, _ => False
 | .nilp, _ => False
 | .pB _ _ _, _ => False
 | .pL _ _ _ _, _ => False
 | .pX _, _ => False
 | .fn _ _, _ => False
 | .tup _, _ => False
def Frzs (A : Nat) (h : List Blk) : List V → List D → Prop
 | [], ys => ys = []
 | v :: vs, ys => ∃ y ys', ys = y :: ys' ∧ Frz A h v y ∧ Frzs A h vs ys'
end
section
variable {B : Nat} {w : World} {M : MM} {h : List Blk} {m0 : Option (Nat × List Nat)} {A : Nat}
theorem own_frz (I : MInv B w M h) (hM : M[A]? = some m0) {b len n : Nat} {xs : List D} {dp : Bool} {cv : Value} (hb0 : b ≠ A) (hb : h[b]? = some (.arr n xs dp)) (hl : len = xs.length) (H : ownR w M h b 0 len cv) : repD (MM.O [m0]) w (.lst xs) [cv] := by
 have hO : MM.O [m0] = mO m0 := by simp [MM.O]
 rw [hO]
 have hdis : ∀ m, M[b]? = some m → ∀ x ∈ mO m, x ∉ mO m0 := fun m hm x hx hx0 => hb0 (O_block_inj I hM hm hx0 hx)
 have hsub : ∀ x, x ∉ M.O → x ∉ mO m0 := fun x hx hx0 => hx (mem_O hM hx0)
 obtain ⟨ad, cap, rfl, h1, h2, h3, h4⟩ := H
 refine ⟨ad, cap, n, by rw [hl], by rw [← hl]; exact h1, h2, h3, ?_⟩
 rcases h4 with h4 | ⟨g, F, arr, t, m1, rfl, m3, m4⟩
 ·have : xs = [] := List.eq_nil_of_length_eq_zero (by omega)
  rw [this]; trivial
 ·obtain ⟨arr', t', k1, k2, k3⟩ := I.blk b _ _ hb m1
  rw [m3] at k1
  cases k1
  have hg := hdis _ m1 g (by simp [mO])
  cases dp with
  | true =>
   rw [if_pos rfl] at k3
   exact ownDe_rep m3 hg (by rw [Nat.zero_mul]) n xs 0 F (fun x hx => hdis _ m1 x (by simp [mO, hx])) k3
  | false =>
   rw [if_neg (by simp)] at k3
   have hext := extDe_mv (O' := mO m0) (w' := w) (fun b hb _ => ⟨hsub b hb, rfl⟩) xs 0 k3.2
   refine (repDe_get _ 0).2 fun i x hx => ?_
   obtain ⟨ces, q1, q2, q3⟩ := extDe_get xs 0 hext _ x hx
   refine ⟨g, 0, ces, by rw [Nat.zero_mul], hg, lt_of_heap m3, fun j v hj => ?_, q1, q3⟩
   have := q2 j v hj
   simp only [World.cell?, m3]
   rw [Nat.zero_add]
   exact this
mutual
theorem frzC (I : MInv B w M h) (hM : M[A]? = some m0) : ∀ (v : V) (x : D) (cs : List Value), Frz A h v x → repC w M h v cs → repD (MM.O [m0]) w x cs
 | .d y, x, cs, hF, H => by
  cases hF
  exact repD_mv (fun b hb _ => ⟨fun hx => hb (mem_O hM (by simpa [MM.O] using hx)), rfl⟩) _ _ H
 | .nils, x, cs, hF, H => by
  cases hF
  cases H
  exact ⟨none, 0, 0, rfl, Nat.le_refl _, Nat.zero_le _, fun _ => rfl, trivial⟩
 | .own b off len, x, cs, hF, H => by
  obtain ⟨hb0, rfl, n, xs, dp, hb, hl, rfl⟩ := hF
  obtain ⟨cv, rfl, H⟩ := H
  exact own_frz I hM hb0 hb hl H
 | .st vs, x, cs, hF, H => by
  obtain ⟨ys, rfl, hF⟩ := hF
  exact frzCs I hM vs ys cs hF H
 | .top, _, _, hF, _ => hF.elim
 | .undef, _, _, hF, _ => hF.elim
 | .nilp, _, _, hF, _ => hF.elim
 | .pB _ _ _, _, _, hF, _ => hF.elim
 | .pL _ _ _ _, _, _, hF, _ => hF.elim
 | .pX _, _, _, hF, _ => hF.elim
 | .fn _ _, _, _, hF, _ => hF.elim
 | .tup _, _, _, hF, _ => hF.elim
theorem frzCs (I : MInv B w M h) (hM : M[A]? = some m0) : ∀ (vs : List V) (xs : List D) (cs : List Value), Frzs A h vs xs → repCs w M h vs cs → repDs (MM.O [m0]) w xs cs
 | [], xs, cs, hF, H => by cases hF; exact H
 | v :: vs, xs, cs, hF, H => by
  obtain ⟨y, ys, rfl, h1, h2⟩ := hF
  obtain ⟨c1, c2, e, k1, k2⟩ := H
  exact ⟨c1, c2, e, frzC I hM v y c1 h1 k1, frzCs I hM vs ys c2 h2 k2⟩
end
theorem frz_agg : ∀ (v : V) (x : D), Frz A h v x → v.isAgg = x.agg
 | .d y, x, hF => by cases hF; rfl
 | .nils, x, hF => by cases hF; rfl
 | .own b off len, x, hF => by obtain ⟨_, _, n, xs, dp, _, _, rfl⟩ := hF; rfl
 | .st vs, x, hF => by obtain ⟨ys, rfl, _⟩ := hF; rfl
 | .top, _, hF => hF.elim
 | .undef, _, hF => hF.elim
 | .nilp, _, hF => hF.elim
 | .pB _ _ _, _, hF => hF.elim
 | .pL _ _ _ _, _, hF => hF.elim
 | .pX _, _, hF => hF.elim
 | .fn _ _, _, hF => hF.elim
 | .tup _, _, hF => hF.elim
theorem frz1 (I : MInv B w M h) (hM : M[A]? = some m0) {v : V} {x : D} {cv : Value} (hF : Frz A h v x) (H : rep1 w M h v cv) : rep1 w [m0] [.gone] (.d x) cv := by
 have ha := frz_agg v x hF
 unfold rep1 at *
 have hb : (V.d x).isAgg = x.agg := rfl
 rw [hb, ← ha]
 split
 ·rename_i hq
  rw [if_pos hq] at H
  obtain ⟨cs, e, H⟩ := H
  exact ⟨cs, e, frzC I hM v x cs hF H⟩
 ·rename_i hq
  rw [if_neg hq] at H
  exact frzC I hM v x _ hF H
theorem frzT (I : MInv B w M h) (hM : M[A]? = some m0) : ∀ (vs : List V) (xs : List D) (cs : List Value), Frzs A h vs xs → repT w M h vs cs → repT w [m0] [.gone] (xs.map V.d) cs
 | [], xs, cs, hF, H => by cases hF; exact H
 | v :: vs, xs, cs, hF, H => by
  obtain ⟨y, ys, rfl, h1, h2⟩ := hF
  obtain ⟨c1, c2, e, k1, k2⟩ := H
  exact ⟨c1, c2, e, frz1 I hM h1 k1, frzT I hM vs ys c2 h2 k2⟩
theorem frz_inv (I : MInv B w M h) (hM : M[0]? = some m0) : MInv B w [m0] [.gone] := by
 have hO : MM.O [m0] = mO m0 := by simp [MM.O]
 have hnd : (mO m0).Nodup := by
  match M, hM, I.nd with
  | m :: M1, hM, hn =>
   have : m = m0 := by simpa using hM
   subst this
   rw [O_cons] at hn
   exact (List.nodup_append.1 hn).1
 refine ⟨rfl, fun b k m hk hm => ?_, by rw [hO]; exact hnd, fun b k m hk hm hl => ?_, fun g hg => I.hi g (mem_O hM (by rw [hO] at hg; exact hg))⟩
 ·cases b with
  | zero => simp at hk; subst hk; trivial
  | succ b => simp at hk
 ·cases b with
  | zero => simp at hk; subst hk; cases hl
  | succ b => simp at hk
end
theorem Weak.frzT {vs : List V} {xs : List D} {bs : List Blk} (hF : Frzs 0 (.gone :: bs) vs xs) : Weak [(0, .tup vs)] (.gone :: bs) [(0, .tup (xs.map V.d))] [.gone] := fun B X N M a w R => by
 refine ⟨[mX X], R.ext, frz_inv R.inv R.fr, fun k => ?_, R.sz, R.df, rfl, rfl⟩
 rw [gt_cons]
 by_cases hk : 0 = k
 ·subst hk
  rw [if_pos rfl]
  have := R.env 0
  rw [gt_cons, if_pos rfl] at this
  obtain ⟨cvs, e, H⟩ := this
  exact ⟨cvs, e, Go.Proofs.YtpdeibhedafcfaaGreatDoor.frzT R.inv R.fr vs xs cvs hF H⟩
 ·rw [if_neg hk]; trivial
theorem PC.frzT {P : Program} {f : FuncId} {As : List V} {vs : List V} {xs : List D} {bs : List Blk} (pc : PC P f As (.tup vs) bs) (hF : Frzs 0 (.gone :: bs) vs xs) : PC P f As (.tup (xs.map V.d)) [] := pc.weak (Weak.frzT hF)
theorem PX.frzT {P : Program} {f : FuncId} {As : List V} {Q : V → List Blk → Prop} (px : PX P f As Q) {S : List D → Prop} (hQ : ∀ v bs, Q v bs → ∃ vs xs, v = .tup vs ∧ Frzs 0 (.gone :: bs) vs xs ∧ S xs) : PX P f As (fun v bs => ∃ xs, S xs ∧ v = .tup (xs.map V.d) ∧ bs = []) where
 fn := px.fn
 run w X args h1 h2 h3 := (px.run w X args h1 h2 h3).mono fun en w' ⟨v, bs, cv, M', q1, q2, q3, q4, q5⟩ => by
  obtain ⟨vs, xs, rfl, k1, k2⟩ := hQ v bs q1
  obtain ⟨cvs, e, H⟩ := q5
  exact ⟨_, [], cv, [], ⟨xs, k2, rfl, rfl⟩, q2, q3, frz_inv q4 rfl, cvs, e, Go.Proofs.YtpdeibhedafcfaaGreatDoor.frzT q4 rfl vs xs cvs k1 H⟩
theorem Lent1.boxF {h : List Blk} {b b' : Nat} {v : V} {x : D} (hb : h[b']? = some (.box v)) (hne : b' ≠ b) (hF : Frz b h v x) : Lent1 h b (.pB b' [] 0) (.pX x) := fun N w M hI g hm c H => by
 obtain ⟨g', F, m1, rfl⟩ := rep_pB.1 (rep_of_rep1 H)
 obtain ⟨rfl, arr, t, hg, hcs⟩ : F = [] ∧ ∃ arr t, w.heap[g']? = some (.cells arr t (0, 0)) ∧ repC w M h v arr.toList := hI.blk b' _ _ hb m1
 have hcells := cellsAt_mid (c1 := []) (c2 := arr.toList) (c3 := []) (o := 0) hg (by simp) rfl
 have hgg : g' ∉ MM.O [none, some (g, [])] := fun hx => by
  have : g' = g := by simpa [MM.O, mO] using hx
  subst this
  exact hne (O_block_inj hI hm m1 (x := g') (by simp [mO]) (by simp [mO]))
 have hO : MM.O [none, some (g, [])] = MM.O [some (g, [])] := by simp [MM.O, mO]
 exact (show ∃ b o ces, [Value.pointer (some ⟨g', 0, none⟩)] = [.pointer (some ⟨b, o, none⟩)] ∧ b ∉ MM.O [none, some (g, [])] ∧ b < w.heap.size ∧ CellsAt w b o ces ∧ repD (MM.O [none, some (g, [])]) w x ces from ⟨g', 0, arr.toList, rfl, hgg, lt_of_heap hg, hcells, by rw [hO]; exact frzC hI hm v x _ hF hcs⟩)
theorem Rep.swap {B : World} {X : List Nat} {N : Nat} {M : MM} {e : Env} {h : List Blk} {a : Act} {w : World} (R : Rep B X N M e h a w) (i j : Nat) (h1 : (Nat.ble 1 i && Nat.ble 1 j && Nat.ble (i + 1) h.length && Nat.ble (j + 1) h.length) = true) :
  ∃ M', Sw i j M M' h (swH i j h) ∧ Rep B X N M' (swE i j e) (swH i j h) a w := by
 simp only [Bool.and_eq_true] at h1
 obtain ⟨⟨⟨i1, j1⟩, i2⟩, j2⟩ := h1
 have i1 := Nat.le_of_ble_eq_true i1
 have j1 := Nat.le_of_ble_eq_true j1
 have i2 : i < h.length := Nat.le_of_ble_eq_true i2
 have j2 : j < h.length := Nat.le_of_ble_eq_true j2
 have i3 : i < M.length := by rw [R.inv.len]; exact i2
 have j3 : j < M.length := by rw [R.inv.len]; exact j2
 have pm := O_swap M i3 j3
 have hm := swp_get M id none i3 j3
 simp only [id] at hm
 have hk := swp_get h (Blk.sw i j) .gone i2 j2
 have S : Sw i j M (((M.map id).set i (M.getD j none)).set j (M.getD i none)) h (swH i j h) := ⟨fun b => by rw [hm b]; simp, hk, fun x => pm.mem_iff⟩
 have z0 : swN i j 0 = 0 := swN_o (by omega) (by omega)
 have back : ∀ (b : Nat) (k : Blk) (m : Option (Nat × List Nat)), (swH i j h)[b]? = some k → (((M.map id).set i (M.getD j none)).set j (M.getD i none))[b]? = some m →
   ∃ k0, h[swN i j b]? = some k0 ∧ k = k0.sw i j ∧ M[swN i j b]? = some m := fun b k m q1 q2 => by
  have r1 := S.k (swN i j b)
  have r2 := S.m (swN i j b)
  rw [swN_swN] at r1 r2
  rw [q1] at r1
  rw [q2] at r2
  obtain ⟨k0, e1, e2⟩ := Option.map_eq_some_iff.1 r1.symm
  exact ⟨k0, e1, e2.symm, r2.symm⟩
 refine ⟨_, S, ⟨R.ext, ⟨?_, fun b k m q1 q2 => ?_, pm.nodup_iff.2 R.inv.nd, fun b k m q1 q2 ql => ?_, fun g hg => R.inv.hi g ((S.o g).1 hg)⟩, fun k => ?_, R.sz, R.df, ?_, ?_⟩⟩
 ·simp [swH, R.inv.len]
 ·obtain ⟨k0, e1, rfl, e2⟩ := back b k m q1 q2
  exact BRep_sw S (R.inv.blk _ k0 m e1 e2)
 ·obtain ⟨k0, e1, rfl, e2⟩ := back b k m q1 q2
  exact R.inv.lo _ k0 m e1 e2 (by cases k0 <;> first | rfl | exact ql | cases ql)
 ·rw [gt_sw]
  exact rep_sw S (R.env k)
 ·have := S.m 0
  rw [z0] at this
  rw [this]; exact R.fr
 ·have := S.k 0
  rw [z0, R.fh] at this
  exact this
theorem Weak.swapG {e : Env} {h : List Blk} (i j : Nat) {c : Nat → Option Obj} {s g sz : Nat} {t : TypeId} (hg : h[1]? = some (.gho c s g sz t)) (h3 : (Nat.ble 3 i && Nat.ble 3 j && Nat.ble (i + 1) h.length && Nat.ble (j + 1) h.length) = true) : Weak e h (swE i j e) ((swH i j h).set 1 (.gho c s g sz t)) := by
 intro B X N M a w R
 simp only [Bool.and_eq_true] at h3
 obtain ⟨⟨⟨i1, j1⟩, i2⟩, j2⟩ := h3
 have i3 := Nat.le_of_ble_eq_true i1
 have j3 := Nat.le_of_ble_eq_true j1
 obtain ⟨M', S, R'⟩ := R.swap i j (by
  simp only [Bool.and_eq_true]
  exact ⟨⟨⟨Nat.ble_eq_true_of_le (by omega), Nat.ble_eq_true_of_le (by omega)⟩, i2⟩, j2⟩)
 have z1 : swN i j 1 = 1 := swN_o (by omega) (by omega)
 have z2 : swN i j 2 = 2 := swN_o (by omega) (by omega)
 have m1 : M'[1]? = M[1]? := by have := S.m 1; rwa [z1] at this
 have m2 : M'[2]? = M[2]? := by have := S.m 2; rwa [z2] at this
 have k1 : (swH i j h)[1]? = some .gone := by have := S.k 1; rw [z1, hg] at this; exact this
 have hl : 1 < (swH i j h).length := (List.getElem?_eq_some_iff.1 k1).1
 have nof : ∀ b, nOf ((swH i j h).set 1 (.gho c s g sz t)) b = nOf (swH i j h) b := fun b => by
  unfold nOf
  by_cases hb : b = 1
  ·subst hb
   rw [List.getElem?_set_self hl, k1]
  ·rw [List.getElem?_set_ne (fun e => hb e.symm)]
 have mv : Mv (fun _ => True) w M' (swH i j h) w M' ((swH i j h).set 1 (.gho c s g sz t)) := {
  ext := fun x hx _ => ⟨hx, rfl⟩
  ids := fun b g F _ hb => ⟨F, hb⟩
  row := fun b g F arr t _ _ hg => ⟨arr, hg, rfl⟩
  nof := fun b _ _ _ _ => nof b
  sz := Nat.le_refl _ }
 refine ⟨M', R'.step R'.ext ⟨by simp [R'.inv.len], fun b k m hk hm => ?_, R'.inv.nd, fun b k m hk hm hlv x hx => ?_, R'.inv.hi⟩ mv rfl (by rw [List.getElem?_set_ne (by omega)])⟩
 ·by_cases hb : b = 1
  ·subst hb
   rw [List.getElem?_set_self hl] at hk
   cases hk
   rw [m1] at hm
   obtain ⟨q1, q2, F, q3, q4⟩ : (∀ b o, c b = some o → b ∉ M.O ∧ w.heap[b]? = some o) ∧ s ≤ w.heap.size ∧ ∃ F, M[2]? = some (some (g, F)) ∧ (sz = 0 ∨ ∃ arr, w.heap[g]? = some (.cells arr t (0, 0)) ∧ arr.size + 1 = sz) := R.inv.blk 1 _ _ hg hm
   exact ⟨fun b o hc => ⟨fun hx => (q1 b o hc).1 ((S.o b).1 hx), (q1 b o hc).2⟩, q2, F, by rw [m2]; exact q3, q4⟩
  ·rw [List.getElem?_set_ne (fun e => hb e.symm)] at hk
   exact BRep_mv mv (by cases k <;> first | trivial | exact V.inS_all _ | exact inSE_all _) (fun _ _ => rfl) (R'.inv.blk b k m hk hm)
 ·by_cases hb : b = 1
  ·subst hb
   rw [m1] at hm
   exact R.inv.lo 1 _ m hg hm rfl x hx
  ·rw [List.getElem?_set_ne (fun e => hb e.symm)] at hk
   exact R'.inv.lo b k m hk hm hlv x hx
theorem Weak.adG {e : Env} {h : List Blk} (b : Nat) {x0 x1 x2 x3 : D} (hb : h[b]? = some (.box (.st [.d x0, .d x1, .d x2, .st [.nils], .nils, .nils, .d x3]))) (hb0 : Nat.ble 1 b = true) :
  Weak e h e ((((h ++ [Blk.arr 1 [] true]) ++ [Blk.arr 3 [] true]) ++ [Blk.arr 3 [] true]).set b (.box (.st [.d x0, .d x1, .d x2, .st [.own h.length 0 0], .own (h.length + 1) 0 0, .own (h.length + 2) 0 0, .d x3]))) := by
 have hbl := (List.getElem?_eq_some_iff.1 hb).1
 refine Weak.trans (Weak.pushE 1 true) (Weak.trans (Weak.pushE 3 true) (Weak.trans (Weak.pushE 3 true) (Weak.box b (v := .st [.d x0, .d x1, .d x2, .st [.nils], .nils, .nils, .d x3]) ?_ hb0 ?_)))
 ·rw [List.getElem?_append_left (by simp; omega), List.getElem?_append_left (by simp; omega), List.getElem?_append_left hbl]; exact hb
 ·rintro w M h' cs ⟨c0, r0, rfl, h0, c1, r1, rfl, h1, c2, r2, rfl, h2, c3, r3, rfl, h3, c4, r4, rfl, h4, c5, r5, rfl, h5, h6⟩
  obtain ⟨d0, d1, rfl, k0, k1⟩ : ∃ d0 d1, c3 = d0 ++ d1 ∧ repC w M h' .nils d0 ∧ repCs w M h' [] d1 := h3
  exact ⟨c0, _, rfl, h0, c1, _, rfl, h1, c2, _, rfl, h2, d0 ++ d1, _, rfl, (show ∃ d0' d1', d0 ++ d1 = d0' ++ d1' ∧ _ ∧ _ from ⟨d0, d1, rfl, repC_nilE _ k0, k1⟩), c4, _, rfl, repC_nilE _ h4, c5, _, rfl, repC_nilE _ h5, h6⟩
theorem LoopW.wk {F : Post → Env → List Blk → Prop} {Q : Post} {e e0 : Env} {h h0 : List Blk} (hw : Weak e h e0 h0) (H : LoopW F Q e0 h0) : LoopW F Q e h := by
 obtain ⟨α, mkE, mkH, I, μ, h1, h2⟩ := H.ex
 exact ⟨α, mkE, mkH, I, μ, fun B X N M a w R => (hw B X N M a w R).elim fun M' R' => h1 B X N M' a w R', h2⟩
theorem shareL {F : Post → Env → List Blk → Prop} {Q : Post} {S : Env → List Blk → Prop} {G : Prop} (h1 : (∀ e h, S e h → LoopW F Q e h) → G) (h2 : ∀ e h, S e h → LoopW F Q e h) : G := h1 h2
def trG1 : OT := .q 0 (.q 1 (.q 2 (.q 6 (.q 7 (.q 8 (.alt 3 (.alt 4 (.alt 5 (.alt 9 (.q 10 (.alt 11 (.alt 12 (.alt 13 .done .nil) .nil) (.alt 12 (.alt 11 (.alt 13 .done .nil) .nil) .nil))) (.alt 12 (.alt 9 (.q 10 (.alt 11 (.alt 13 .done .nil) .nil)) .nil) .nil)) (.alt 9 (.q 5 (.q 10 (.alt 11 (.alt 12 (.alt 13 .done .nil) .nil) (.alt 12 (.alt 11 (.alt 13 .done .nil) .nil) .nil)))) (.alt 12 (.alt 5 (.alt 9 (.q 10 (.alt 11 (.alt 13 .done .nil) .nil)) .nil) (.alt 9 (.q 5 (.q 10 (.alt 11 (.alt 13 .done .nil) .nil))) .nil)) .nil))) (.alt 9 (.q 10 (.alt 4 (.q 5 (.alt 11 (.alt 12 (.alt 13 .done .nil) .nil) (.alt 12 (.alt 11 (.alt 13 .done .nil) .nil) .nil))) (.alt 12 (.alt 4 (.q 5 (.alt 11 (.alt 13 .done .nil) .nil)) .nil) .nil))) (.alt 12 (.alt 4 (.alt 5 (.alt 9 (.q 10 (.alt 11 (.alt 13 .done .nil) .nil)) .nil) (.alt 9 (.q 5 (.q 10 (.alt 11 (.alt 13 .done .nil) .nil))) .nil)) (.alt 9 (.q 10 (.alt 4 (.q 5 (.alt 11 (.alt 13 .done .nil) .nil)) .nil)) .nil)) .nil))) (.alt 9 (.q 3 (.q 10 (.alt 4 (.q 5 (.alt 11 (.alt 12 (.alt 13 .done .nil) .nil) (.alt 12 (.alt 11 (.alt 13 .done .nil) .nil) .nil))) (.alt 12 (.alt 4 (.q 5 (.alt 11 (.alt 13 .done .nil) .nil)) .nil) .nil)))) (.alt 12 (.alt 3 (.alt 4 (.alt 5 (.alt 9 (.q 10 (.alt 11 (.alt 13 .done .nil) .nil)) .nil) (.alt 9 (.q 5 (.q 10 (.alt 11 (.alt 13 .done .nil) .nil))) .nil)) (.alt 9 (.q 10 (.alt 4 (.q 5 (.alt 11 (.alt 13 .done .nil) .nil)) .nil)) .nil)) (.alt 9 (.q 3 (.q 10 (.alt 4 (.q 5 (.alt 11 (.alt 13 .done .nil) .nil)) .nil))) .nil)) .nil))))))))
def trG16 : OT := .q 0 (.q 1 (.q 3 (.alt 2 (.alt 4 (.alt 5 (.alt 6 (.q 7 (.q 8 (.alt 9 .done .nil))) .nil) .nil) .nil) (.alt 4 (.q 2 (.alt 5 (.alt 6 (.q 7 (.q 8 (.alt 9 .done .nil))) .nil) .nil)) .nil))))
def trG22 : OT := .q 0 (.q 2 (.q 3 (.q 4 (.q 6 (.alt 1 (.alt 5 (.alt 7 (.alt 8 (.alt 9 (.alt 10 (.q 11 (.alt 12 .done .nil)) .nil) .nil) .nil) .nil) (.alt 7 (.q 5 (.alt 8 (.alt 9 (.alt 10 (.q 11 (.alt 12 .done .nil)) .nil) .nil) .nil)) .nil)) (.alt 5 (.alt 1 (.alt 7 (.alt 8 (.alt 9 (.alt 10 (.q 11 (.alt 12 .done .nil)) .nil) .nil) .nil) .nil) (.alt 7 (.q 1 (.alt 8 (.alt 9 (.alt 10 (.q 11 (.alt 12 .done .nil)) .nil) .nil) .nil)) .nil)) (.alt 7 (.q 1 (.q 5 (.alt 8 (.alt 9 (.alt 10 (.q 11 (.alt 12 .done .nil)) .nil) .nil) .nil))) .nil)))))))
structure DgV (g : TGlyph) : Prop where
 ll : g.fOutline.fLoops.length ≤ 2
 lk : ∀ l ∈ g.fOutline.fLoops, l.fKnots.length ≤ 9
def DgQ (v : V) (bs : List Blk) : Prop := ∃ g : TGlyph, DgV g ∧ v = .st [.d (.str g.fName), .d (.int .i64 g.fCode), .d (.int .i64 g.fAdvance), .st [.own 1 0 g.fOutline.fLoops.length], .own 2 0 g.fParts.length, .own 3 0 g.fAnchors.length, .d (.str g.fHints)] ∧ bs = [.arr 1 (g.fOutline.fLoops.map TLoop.D) true, .arr 3 (g.fParts.map TPart.D) true, .arr 3 (g.fAnchors.map TAnchor.D) true]
set_option maxHeartbeats 4000000 in
theorem l17DrawGlyph_z (code : List UInt8) (kk : Nat) (hk : kk < 4) : PZ Tryz.prog 46 (code.map bD) 600 [.d (.int .i64 kk)] DgQ := by
 refine pz_intro ttOk (by kernel_rfl) Tryz.func46 rfl (by kernel_rfl) (by kernel_rfl) (by rfl) (by rfl) (fun k s0 g t cc pl sd hw hst hpl => ?_)
 have p10 := pick_e code 10
 have o5 := one_e code 5
 have o3 := one_e code 3
 have p3 := pick_e code 3
 have o4 := one_e code 4
 have pk := pick_e code kk
 have w8 := word_e code 8 (by omega) (by omega)
 have cP5 := l03Draw_z code 500 (by omega) (by omega)
 have cP6 := l03Draw_z code 600 (by omega) (by omega)
 have cL := l10DrawLoop_z code 500 (by omega) (by omega)
 (conv => whnf)
 (repeat ((fail_if_success (with_reducible apply RegD.id)); (refine stg_ ?_)))
 refine RegD.cutS (fun e h => ∃ pl' sd' nm ad, pl ≤ pl' ∧ pl' ≤ pl + 2 ∧ stOK pl' sd' ∧ e = [(0, .pB 2 [] 0), (1, .d (.int .i64 kk)), (4, .pB 4 [] 0), (5, .pB 5 [] 0)] ∧ h = [.gone, .gho k s0 g 4 t, .box (.d (srcR cc pl' sd')), .keep [(0, .d (.lst (code.map bD)))] (fun _ => cc), .box (.st [.d (.str .empty), .d (.int .i64 0), .d (.int .i64 0), .st [.nils], .nils, .nils, .d (.str .empty)]), .box (.st [.d (.str nm), .d (.int .i64 (97 + kk)), .d (.int .i64 ad), .st [.nils], .nils, .nils, .d (.str .empty)]), .gone]) trG1 (by kernel_rfl) ?_ ?_
 ·(conv => whnf)
  (repeat ((fail_if_success (with_reducible apply RegD.id)); (refine stg_ ?_)))
  have ht : (kk : Int).tmod 26 = kk := by rw [Int.tmod_eq_emod_of_nonneg (by omega)]; omega
  refine ArW.i64e (raw := 97 + (kk : Int).tmod 26) (97 + (kk : Int)) (by rw [ht]) (by omega) ?_
  (conv => whnf)
  obtain ⟨nm, hnm⟩ : ∃ nm : ByteArray, List.take 1 (List.drop 0 [D.int .u8 (97 + (kk : Int))]) = nm.data.toList.map bD := by
   obtain rfl | rfl | rfl | rfl : kk = 0 ∨ kk = 1 ∨ kk = 2 ∨ kk = 3 := by omega
   ·exact ⟨mkS [97], by rw [mkS_toList]; rfl⟩
   ·exact ⟨mkS [98], by rw [mkS_toList]; rfl⟩
   ·exact ⟨mkS [99], by rw [mkS_toList]; rfl⟩
   ·exact ⟨mkS [100], by rw [mkS_toList]; rfl⟩
  iterate 40 (all_goals (first
   | ((with_reducible apply StW.id); (refine StW.at (s := nm) hnm ?_); (conv => whnf))
   | (with_reducible exact trivial)
   | ((with_reducible refine And.intro ?_ ?_) <;> (conv => whnf))
   | ((with_reducible apply CallW.id); ((refine clr_ p10 (by assumption) (by omega) ?_; rintro _ pl1 sd1 ⟨n, rfl, hn0, hn⟩ hl1 hl2 hs1; (conv => whnf))))
   | (refine stg_ ?_)
   | skip))
  all_goals (refine ⟨_, _, ⟨pl1, sd1, nm, 100 * n, by omega, by omega, hs1, rfl, rfl⟩, ?_⟩)
  all_goals first | ((refine Weak.cov ?_ ?_ ?_; (focus (repeat' (first | exact trivial | with_reducible rfl | (refine ⟨?_, ?_⟩) | rfl))); (focus (repeat' (first | exact trivial | with_reducible rfl | (refine ⟨?_, ?_⟩) | rfl))); (focus rfl)); done) | ((refine Weak.trans (Weak.swapG 5 6 rfl ?_) (Weak.cov ?_ ?_ ?_); (focus rfl); (focus (repeat' (first | exact trivial | with_reducible rfl | (refine ⟨?_, ?_⟩) | rfl))); (focus (repeat' (first | exact trivial | with_reducible rfl | (refine ⟨?_, ?_⟩) | rfl))); (focus rfl)); done)
 ·rintro e h ⟨pl1, sd1, nm, ad, y1, y2, y3, rfl, rfl⟩
  (conv => whnf)
  (repeat (refine stg_ ?_))
  (refine br_ (fun h26 => ?_) (fun h26 => ?_))
  ·exfalso; omega
  (repeat (refine stg_ ?_))
  apply shareL (S := fun e h => ∃ pl' sd' cd, ∃ ls : List TLoop, ∃ ps : List TPart, pl ≤ pl' ∧ pl' ≤ pl + 420 ∧ stOK pl' sd' ∧ ls.length ≤ 2 ∧ (∀ l ∈ ls, l.fKnots.length ≤ 9) ∧ e = [(0, .pB 2 [] 0), (4, .pB 4 [] 0), (5, .pB 5 [] 0), (9, .own 10 0 3), (10, .d (.int .i64 0))] ∧ h = [.gone, .gho k s0 g 4 t, .box (.d (srcR cc pl' sd')), .keep [(0, .d (.lst (code.map bD)))] (fun _ => cc), .box (.st [.d (.str .empty), .d (.int .i64 0), .d (.int .i64 0), .st [.nils], .nils, .nils, .d (.str .empty)]), .box (.st [.d (.str nm), .d (.int .i64 cd), .d (.int .i64 ad), .st [.own 7 0 ls.length], .own 8 0 ps.length, .own 9 0 0, .d (.str .empty)]), .gone, .arr 1 (ls.map TLoop.D) true, .arr 3 (ps.map TPart.D) true, .arr 3 [] true, .arr 1 [.str ⟨#[116, 111, 112]⟩, .str ⟨#[98, 111, 116, 116, 111, 109]⟩, .str ⟨#[109, 97, 114, 107, 46, 116, 111, 112]⟩] true])
  ·intro HA
   apply shareL (S := fun e h => ∃ pl' sd' cd q, pl ≤ pl' ∧ pl' ≤ pl + 8 ∧ stOK pl' sd' ∧ 0 ≤ q ∧ q ≤ 2 ∧ e = [(0, .pB 2 [] 0), (4, .pB 4 [] 0), (5, .pB 5 [] 0), (8, .d (.int .i64 q))] ∧ h = [.gone, .gho k s0 g 4 t, .box (.d (srcR cc pl' sd')), .keep [(0, .d (.lst (code.map bD)))] (fun _ => cc), .box (.st [.d (.str .empty), .d (.int .i64 0), .d (.int .i64 0), .st [.nils], .nils, .nils, .d (.str .empty)]), .box (.st [.d (.str nm), .d (.int .i64 cd), .d (.int .i64 ad), .st [.own 7 0 0], .own 8 0 0, .own 9 0 0, .d (.str .empty)]), .gone, .arr 1 [] true, .arr 3 [] true, .arr 3 [] true])
   ·intro HO
    apply shareL (S := fun e h => ∃ pl' sd' cd q, pl ≤ pl' ∧ pl' ≤ pl + 8 ∧ stOK pl' sd' ∧ 0 ≤ q ∧ q ≤ 3 ∧ e = [(0, .pB 2 [] 0), (4, .pB 4 [] 0), (5, .pB 5 [] 0), (1, .d (.int .i64 kk)), (6, .d (.int .i64 q))] ∧ h = [.gone, .gho k s0 g 4 t, .box (.d (srcR cc pl' sd')), .keep [(0, .d (.lst (code.map bD)))] (fun _ => cc), .box (.st [.d (.str .empty), .d (.int .i64 0), .d (.int .i64 0), .st [.nils], .nils, .nils, .d (.str .empty)]), .box (.st [.d (.str nm), .d (.int .i64 cd), .d (.int .i64 ad), .st [.own 7 0 0], .own 8 0 0, .own 9 0 0, .d (.str .empty)]), .gone, .arr 1 [] true, .arr 3 [] true, .arr 3 [] true])
    ·intro HP
     (refine clr_ o5 (by assumption) (by omega) ?_; rintro _ pl2 sd2 ⟨b5, rfl⟩ y4 y5 y6; (conv => whnf))
     (repeat (refine stg_ ?_))
     cases b5
     rotate_left
     ·(conv => whnf)
      (repeat (refine stg_ ?_))
      (refine br_ (fun h0 => ?_) (fun h0 => ?_))
      ·(repeat (refine stg_ ?_))
       (refine clr_ o3 (by assumption) (by omega) ?_; rintro _ pl3 sd3 ⟨b3, rfl⟩ u1 u2 u3; (conv => whnf))
       (repeat (refine stg_ ?_))
       cases b3
       ·(conv => whnf)
        (repeat (refine stg_ ?_))
        (refine clr_ p3 (by assumption) (by omega) ?_; rintro _ pl4 sd4 ⟨q, rfl, hq0, hq⟩ y7 y8 y9; (conv => whnf))
        (repeat (refine stg_ ?_))
        refine LoopW.wk (Weak.trans (Weak.adG 5 rfl rfl) (Weak.cov ?_ ?_ ?_)) (HO _ _ ⟨pl4, sd4, -1, q, by omega, by omega, y9, by omega, by omega, rfl, rfl⟩)
        ·exact cv_
        ·exact cv_
        ·rfl
       ·(conv => whnf)
        (repeat (refine stg_ ?_))
        (refine clr_ p3 (by assumption) (by omega) ?_; rintro _ pl4 sd4 ⟨q, rfl, hq0, hq⟩ y7 y8 y9; (conv => whnf))
        (repeat (refine stg_ ?_))
        refine LoopW.wk (Weak.trans (Weak.adG 5 rfl rfl) (Weak.cov ?_ ?_ ?_)) (HP _ _ ⟨pl4, sd4, -1, 1 + q, by omega, by omega, y9, by omega, by omega, rfl, rfl⟩)
        ·exact cv_
        ·exact cv_
        ·rfl
      ·(repeat (refine stg_ ?_))
       (refine clr_ p3 (by assumption) (by omega) ?_; rintro _ pl4 sd4 ⟨q, rfl, hq0, hq⟩ y7 y8 y9; (conv => whnf))
       (repeat (refine stg_ ?_))
       refine LoopW.wk (Weak.trans (Weak.adG 5 rfl rfl) (Weak.cov ?_ ?_ ?_)) (HO _ _ ⟨pl4, sd4, -1, q, by omega, by omega, y9, by omega, by omega, rfl, rfl⟩)
       ·exact cv_
       ·exact cv_
       ·rfl
     (conv => whnf)
     (repeat (refine stg_ ?_))
     (refine br_ (fun h0 => ?_) (fun h0 => ?_))
     ·(repeat (refine stg_ ?_))
      (refine clr_ o3 (by assumption) (by omega) ?_; rintro _ pl3 sd3 ⟨b3, rfl⟩ u1 u2 u3; (conv => whnf))
      (repeat (refine stg_ ?_))
      cases b3
      ·(conv => whnf)
       (repeat (refine stg_ ?_))
       (refine clr_ p3 (by assumption) (by omega) ?_; rintro _ pl4 sd4 ⟨q, rfl, hq0, hq⟩ y7 y8 y9; (conv => whnf))
       (repeat (refine stg_ ?_))
       refine LoopW.wk (Weak.trans (Weak.adG 5 rfl rfl) (Weak.cov ?_ ?_ ?_)) (HO _ _ ⟨pl4, sd4, 97 + kk, q, by omega, by omega, y9, by omega, by omega, rfl, rfl⟩)
       ·exact cv_
       ·exact cv_
       ·rfl
      ·(conv => whnf)
       (repeat (refine stg_ ?_))
       (refine clr_ p3 (by assumption) (by omega) ?_; rintro _ pl4 sd4 ⟨q, rfl, hq0, hq⟩ y7 y8 y9; (conv => whnf))
       (repeat (refine stg_ ?_))
       refine LoopW.wk (Weak.trans (Weak.adG 5 rfl rfl) (Weak.cov ?_ ?_ ?_)) (HP _ _ ⟨pl4, sd4, 97 + kk, 1 + q, by omega, by omega, y9, by omega, by omega, rfl, rfl⟩)
       ·exact cv_
       ·exact cv_
       ·rfl
     ·(repeat (refine stg_ ?_))
      (refine clr_ p3 (by assumption) (by omega) ?_; rintro _ pl4 sd4 ⟨q, rfl, hq0, hq⟩ y7 y8 y9; (conv => whnf))
      (repeat (refine stg_ ?_))
      refine LoopW.wk (Weak.trans (Weak.adG 5 rfl rfl) (Weak.cov ?_ ?_ ?_)) (HO _ _ ⟨pl4, sd4, 97 + kk, q, by omega, by omega, y9, by omega, by omega, rfl, rfl⟩)
      ·exact cv_
      ·exact cv_
      ·rfl
    ·rintro e h ⟨plA, sdA, cd, q, y4, y5, y6, hq0, hq, rfl, rfl⟩
     refine LoopW.go (α := Int × Int × Int × List TPart) (fun p => [(0, .pB 2 [] 0), (4, .pB 4 [] 0), (5, .pB 5 [] 0), (1, .d (.int .i64 kk)), (6, .d (.int .i64 p.2.2.1))]) (fun p => [.gone, .gho k s0 g 4 t, .box (.d (srcR cc p.1 p.2.1)), .keep [(0, .d (.lst (code.map bD)))] (fun _ => cc), .box (.st [.d (.str .empty), .d (.int .i64 0), .d (.int .i64 0), .st [.nils], .nils, .nils, .d (.str .empty)]), .box (.st [.d (.str nm), .d (.int .i64 cd), .d (.int .i64 ad), .st [.own 7 0 0], .own 8 0 p.2.2.2.length, .own 9 0 0, .d (.str .empty)]), .gone, .arr 1 [] true, .arr 3 (p.2.2.2.map TPart.D) true, .arr 3 [] true])
      (fun p => plA ≤ p.1 ∧ p.1 ≤ plA + 12 * p.2.2.2.length ∧ stOK p.1 p.2.1 ∧ 0 ≤ p.2.2.1 ∧ p.2.2.1 + p.2.2.2.length = q) (fun p => p.2.2.1.toNat) (plA, sdA, q, []) (Weak.cov ?_ ?_ ?_) ⟨by dsimp only; omega, by dsimp only [List.length_nil]; omega, y6, by dsimp only; omega, by simp⟩ ?_
     ·exact cv_
     ·exact cv_
     ·rfl
     rintro ⟨plB, sdB, j, ps⟩ ⟨k1, k2, k3, k4, k5⟩
     dsimp only at k1 k2 k3 k4 k5 ⊢
     have hL : (ps.map TPart.D).length = ps.length := List.length_map _
     (conv => whnf)
     (repeat (refine stg_ ?_))
     (refine br_ (fun h1 => ?_) (fun h1 => ?_))
     ·(repeat (refine stg_ ?_))
      (refine clr_ pk (by assumption) (by omega) ?_; rintro _ plC sdC ⟨x, rfl, hx0, hx⟩ z1 z2 z3; (conv => whnf))
      (repeat (refine stg_ ?_))
      (refine clzr_ cP5 (by assumption) (by omega) ?_; rintro v bs plD sdD ⟨p, rfl, rfl⟩ z4 z5 z6 <;> refine ⟨rfl, ?_⟩ <;> (conv => whnf))
      have hap : Blk.arr 3 ((ps.map TPart.D).take ps.length ++ [TPart.D ⟨x, p⟩]) true = Blk.arr 3 ((ps ++ [(⟨x, p⟩ : TPart)]).map TPart.D) true := by
       rw [List.take_of_length_le (by omega), List.map_append]; rfl
      (repeat (first | ((with_reducible apply ApW.id); (refine ApW.at (by simp only [List.length_cons, List.length_nil]; show _ ≤ 9223372036854775807; omega) (by simp only [List.length_cons, List.length_nil]; show _ * 24 ≤ 140737488355328; omega) ?_; (conv => whnf))) | ((fail_if_success (with_reducible apply RegD.id)); (fail_if_success (with_reducible apply ApW.id)); (refine stg_ ?_))))
      (repeat (refine stg_ ?_))
      refine NextW.go (plD, sdD, j - 1, ps ++ [⟨x, p⟩]) (Weak.cov ?_ ?_ ?_) ⟨by dsimp only; omega, by simp; omega, z6, by dsimp only; omega, by simp; omega⟩ (by dsimp only; omega)
      ·exact cv_
      ·rw [show (ps ++ [(⟨x, p⟩ : TPart)]).length = ps.length + 1 from by simp]
       (repeat' (first | exact trivial | with_reducible rfl | with_reducible exact hap | (refine ⟨?_, ?_⟩) | exact hap | rfl))
      ·rfl
     ·(repeat (refine stg_ ?_))
      refine LoopW.wk (Weak.cov ?_ ?_ ?_) (HA _ _ ⟨plB, sdB, cd, [], ps, by omega, by omega, k3, by simp, by simp, rfl, rfl⟩)
      ·exact cv_
      ·exact cv_
      ·rfl
   ·rintro e h ⟨plA, sdA, cd, q, y4, y5, y6, hq0, hq, rfl, rfl⟩
    refine LoopW.go (α := Int × Int × Int × List TLoop) (fun p => [(0, .pB 2 [] 0), (4, .pB 4 [] 0), (5, .pB 5 [] 0), (8, .d (.int .i64 p.2.2.1))]) (fun p => [.gone, .gho k s0 g 4 t, .box (.d (srcR cc p.1 p.2.1)), .keep [(0, .d (.lst (code.map bD)))] (fun _ => cc), .box (.st [.d (.str .empty), .d (.int .i64 0), .d (.int .i64 0), .st [.nils], .nils, .nils, .d (.str .empty)]), .box (.st [.d (.str nm), .d (.int .i64 cd), .d (.int .i64 ad), .st [.own 7 0 p.2.2.2.length], .own 8 0 0, .own 9 0 0, .d (.str .empty)]), .gone, .arr 1 (p.2.2.2.map TLoop.D) true, .arr 3 [] true, .arr 3 [] true])
     (fun p => plA ≤ p.1 ∧ p.1 ≤ plA + 200 * p.2.2.2.length ∧ stOK p.1 p.2.1 ∧ 0 ≤ p.2.2.1 ∧ p.2.2.1 + p.2.2.2.length = q ∧ ∀ l ∈ p.2.2.2, l.fKnots.length ≤ 9) (fun p => p.2.2.1.toNat) (plA, sdA, q, []) (Weak.cov ?_ ?_ ?_) ⟨by dsimp only; omega, by dsimp only [List.length_nil]; omega, y6, by dsimp only; omega, by simp, by simp⟩ ?_
    ·exact cv_
    ·exact cv_
    ·rfl
    rintro ⟨plB, sdB, j, ls⟩ ⟨k1, k2, k3, k4, k5, k6⟩
    dsimp only at k1 k2 k3 k4 k5 k6 ⊢
    have hL : (ls.map TLoop.D).length = ls.length := List.length_map _
    (conv => whnf)
    (repeat (refine stg_ ?_))
    (refine br_ (fun h1 => ?_) (fun h1 => ?_))
    ·(repeat ((fail_if_success (with_reducible apply RegD.id)); (refine stg_ ?_)))
     have hap : ∀ l : TLoop, Blk.arr 1 ((ls.map TLoop.D).take ls.length ++ [l.D]) true = Blk.arr 1 ((ls ++ [l]).map TLoop.D) true := fun l => by
      rw [List.take_of_length_le (by omega), List.map_append]; rfl
     refine RegD.cutS (fun e h => ∃ pl' sd', ∃ l : TLoop, plB ≤ pl' ∧ pl' ≤ plB + 200 ∧ stOK pl' sd' ∧ l.fKnots.length ≤ 9 ∧ e = [(0, .pB 2 [] 0), (4, .pB 4 [] 0), (5, .pB 5 [] 0), (8, .d (.int .i64 j))] ∧ h = [.gone, .gho k s0 g 4 t, .box (.d (srcR cc pl' sd')), .keep [(0, .d (.lst (code.map bD)))] (fun _ => cc), .box (.st [.d (.str .empty), .d (.int .i64 0), .d (.int .i64 0), .st [.nils], .nils, .nils, .d (.str .empty)]), .box (.st [.d (.str nm), .d (.int .i64 cd), .d (.int .i64 ad), .st [.own 7 0 (ls ++ [l]).length], .own 8 0 0, .own 9 0 0, .d (.str .empty)]), .gone, .arr 1 ((ls ++ [l]).map TLoop.D) true, .arr 3 [] true, .arr 3 [] true]) trG16 (by kernel_rfl) ?_ ?_
     ·(conv => whnf)
      (repeat ((fail_if_success (with_reducible apply RegD.id)); (refine stg_ ?_)))
      refine And.intro ?_ ?_ <;> (conv => whnf)
      all_goals (repeat ((fail_if_success (with_reducible apply RegD.id)); (refine stg_ ?_)))
      all_goals ((refine clzr_ cL (by assumption) (by omega) ?_; rintro v bs plC sdC ⟨ks, hk1, hk2, rfl, rfl⟩ z1 z2 z3 <;> refine ⟨rfl, ?_⟩ <;> (conv => whnf)))
      all_goals (have hLk : (ks.map TKnot.D).length = ks.length := List.length_map _)
      all_goals (repeat (first | ((with_reducible apply ApW.id); (refine ApW.at (by simp only [List.length_cons, List.length_nil]; show _ ≤ 9223372036854775807; omega) (by simp only [List.length_cons, List.length_nil]; show _ * 24 ≤ 140737488355328; omega) ?_; (conv => whnf))) | ((fail_if_success (with_reducible apply RegD.id)); (fail_if_success (with_reducible apply ApW.id)); (refine stg_ ?_))))
      all_goals (refine ⟨_, _, ⟨plC, sdC, ⟨ks⟩, by omega, by omega, z3, hk2, rfl, rfl⟩, ?_⟩)
      all_goals rw [show (ls ++ [(⟨ks⟩ : TLoop)]).length = ls.length + 1 from by simp]
      all_goals (refine Weak.cov ?_ ?_ ?_)
      all_goals first | (focus ((repeat' (first | exact trivial | with_reducible rfl | with_reducible exact hap _ | (refine ⟨?_, ?_⟩) | exact hap _ | rfl)); done)) | rfl
     ·rintro e h ⟨plC, sdC, l, z1, z2, z3, z4, rfl, rfl⟩
      (conv => whnf)
      (repeat (refine stg_ ?_))
      refine NextW.go (plC, sdC, j - 1, ls ++ [l]) covT_ ⟨by dsimp only; omega, by simp; omega, z3, by dsimp only; omega, by simp; omega, ?_⟩ (by dsimp only; omega)
      intro x hx
      rcases List.mem_append.1 hx with hx | hx
      ·exact k6 x hx
      ·obtain rfl : x = l := by simpa using hx
       exact z4
    ·(repeat (refine stg_ ?_))
     refine LoopW.wk (Weak.cov ?_ ?_ ?_) (HA _ _ ⟨plB, sdB, cd, ls, [], by omega, by omega, k3, by omega, k6, rfl, rfl⟩)
     ·exact cv_
     ·exact cv_
     ·rfl
  ·rintro e h ⟨plA, sdA, cd, ls, ps, y4, y5, y6, y7, y8, rfl, rfl⟩
   have hnm : ∀ k : Nat, k < 3 → ∃ nm : ByteArray, ([.str ⟨#[116, 111, 112]⟩, .str ⟨#[98, 111, 116, 116, 111, 109]⟩, .str ⟨#[109, 97, 114, 107, 46, 116, 111, 112]⟩] : List D)[k]? = some (.str nm) := fun k hk => by
    obtain rfl | rfl | rfl : k = 0 ∨ k = 1 ∨ k = 2 := by omega
    all_goals exact ⟨_, rfl⟩
   generalize hNN : ([.str ⟨#[116, 111, 112]⟩, .str ⟨#[98, 111, 116, 116, 111, 109]⟩, .str ⟨#[109, 97, 114, 107, 46, 116, 111, 112]⟩] : List D) = NN at hnm
   have hNl : NN.length = 3 := by rw [← hNN]; rfl
   refine LoopW.go (α := Int × Int × Nat × List TAnchor) (fun p => [(0, .pB 2 [] 0), (4, .pB 4 [] 0), (5, .pB 5 [] 0), (9, .own 10 0 3), (10, .d (.int .i64 p.2.2.1))]) (fun p => [.gone, .gho k s0 g 4 t, .box (.d (srcR cc p.1 p.2.1)), .keep [(0, .d (.lst (code.map bD)))] (fun _ => cc), .box (.st [.d (.str .empty), .d (.int .i64 0), .d (.int .i64 0), .st [.nils], .nils, .nils, .d (.str .empty)]), .box (.st [.d (.str nm), .d (.int .i64 cd), .d (.int .i64 ad), .st [.own 7 0 ls.length], .own 8 0 ps.length, .own 9 0 p.2.2.2.length, .d (.str .empty)]), .gone, .arr 1 (ls.map TLoop.D) true, .arr 3 (ps.map TPart.D) true, .arr 3 (p.2.2.2.map TAnchor.D) true, .arr 1 NN true])
    (fun p => plA ≤ p.1 ∧ p.1 ≤ plA + 12 * p.2.2.1 ∧ stOK p.1 p.2.1 ∧ p.2.2.1 ≤ 3 ∧ p.2.2.2.length ≤ p.2.2.1) (fun p => 3 - p.2.2.1) (plA, sdA, 0, []) (Weak.cov ?_ ?_ ?_) ⟨by dsimp only; omega, by dsimp only; omega, y6, by dsimp only; omega, by simp⟩ ?_
   ·exact cv_
   ·exact cv_
   ·rfl
   rintro ⟨plB, sdB, j, xs⟩ ⟨k1, k2, k3, k4, k5⟩
   dsimp only at k1 k2 k3 k4 k5 ⊢
   have hL : (xs.map TAnchor.D).length = xs.length := List.length_map _
   have hLl : (ls.map TLoop.D).length = ls.length := List.length_map _
   have hLp : (ps.map TPart.D).length = ps.length := List.length_map _
   (conv => whnf)
   (repeat (refine stg_ ?_))
   (refine br_ (fun h1 => ?_) (fun h1 => ?_))
   ·obtain ⟨an, he⟩ := hnm j (by omega)
    (repeat (refine stg_ ?_))
    (refine clr_ o3 (by assumption) (by omega) ?_; rintro _ plC sdC ⟨b, rfl⟩ z1 z2 z3; (conv => whnf))
    (repeat (refine stg_ ?_))
    cases b
    ·(conv => whnf)
     (repeat (refine stg_ ?_))
     refine NextW.go (plC, sdC, j + 1, xs) covT_ ⟨by dsimp only; omega, by dsimp only; omega, z3, by dsimp only; omega, by dsimp only; omega⟩ (by dsimp only; omega)
    (conv => whnf)
    (repeat ((fail_if_success (with_reducible apply RegD.id)); (refine stg_ ?_)))
    have hap : ∀ x : TAnchor, Blk.arr 3 ((xs.map TAnchor.D).take xs.length ++ [x.D]) true = Blk.arr 3 ((xs ++ [x]).map TAnchor.D) true := fun x => by
     rw [List.take_of_length_le (by omega), List.map_append]; rfl
    refine RegD.cutS (fun e h => ∃ pl' sd', ∃ x : TAnchor, plC ≤ pl' ∧ pl' ≤ plC + 10 ∧ stOK pl' sd' ∧ e = [(0, .pB 2 [] 0), (4, .pB 4 [] 0), (5, .pB 5 [] 0), (9, .own 10 0 3), (10, .d (.int .i64 j))] ∧ h = [.gone, .gho k s0 g 4 t, .box (.d (srcR cc pl' sd')), .keep [(0, .d (.lst (code.map bD)))] (fun _ => cc), .box (.st [.d (.str .empty), .d (.int .i64 0), .d (.int .i64 0), .st [.nils], .nils, .nils, .d (.str .empty)]), .box (.st [.d (.str nm), .d (.int .i64 cd), .d (.int .i64 ad), .st [.own 7 0 ls.length], .own 8 0 ps.length, .own 9 0 (xs ++ [x]).length, .d (.str .empty)]), .gone, .arr 1 (ls.map TLoop.D) true, .arr 3 (ps.map TPart.D) true, .arr 3 ((xs ++ [x]).map TAnchor.D) true, .arr 1 NN true]) trG22 (by kernel_rfl) ?_ ?_
    ·(conv => whnf)
     iterate 30 (all_goals (first
      | (with_reducible exact trivial)
      | ((with_reducible refine And.intro ?_ ?_) <;> (conv => whnf))
      | ((with_reducible apply CallW.id); ((refine clzr_ cP6 (by assumption) (by omega) ?_; rintro v bs plD sdD ⟨p, rfl, rfl⟩ z4 z5 z6 <;> refine ⟨rfl, ?_⟩ <;> (conv => whnf))))
      | ((with_reducible apply ApW.id); (refine ApW.at (by simp only [List.length_cons, List.length_nil]; show _ ≤ 9223372036854775807; omega) (by simp only [List.length_cons, List.length_nil]; show _ * 32 ≤ 140737488355328; omega) ?_; (conv => whnf)))
      | (refine stg_ ?_)
      | skip))
     all_goals (refine ⟨_, _, ⟨plD, sdD, ⟨an, p⟩, by omega, by omega, z6, rfl, rfl⟩, ?_⟩)
     all_goals rw [show (xs ++ [(⟨an, p⟩ : TAnchor)]).length = xs.length + 1 from by simp]
     all_goals (refine Weak.cov ?_ ?_ ?_)
     all_goals first | (focus ((repeat' (first | exact trivial | with_reducible rfl | with_reducible exact hap ⟨an, p⟩ | (refine ⟨?_, ?_⟩) | exact hap ⟨an, p⟩ | rfl)); done)) | rfl
    ·rintro e h ⟨plD, sdD, x, z4, z5, z6, rfl, rfl⟩
     (conv => whnf)
     (repeat (refine stg_ ?_))
     refine NextW.go (plD, sdD, j + 1, xs ++ [x]) covT_ ⟨by dsimp only; omega, by dsimp only; omega, z6, by dsimp only; omega, by simp; omega⟩ (by dsimp only; omega)
   ·(repeat (refine stg_ ?_))
    (refine clr_ o4 (by assumption) (by omega) ?_; rintro _ plC sdC ⟨b, rfl⟩ z1 z2 z3; (conv => whnf))
    (repeat (refine stg_ ?_))
    cases b
    ·(conv => whnf)
     (repeat (refine stg_ ?_))
     refine ⟨_, _, ⟨⟨nm, cd, ad, ⟨ls⟩, ps, xs, .empty⟩, ⟨y7, y8⟩, rfl, rfl⟩, ?_, plC, sdC, _, by omega, by omega, z3, rfl⟩
     refine ⟨⟨[some 7, some 8, some 9], ⟨by decide, rfl, trivial, by decide, rfl, trivial, by decide, rfl, trivial, trivial⟩, by decide, ⟨rfl, ?_⟩⟩⟩
     exact rn_
    ·(conv => whnf)
     (repeat (refine stg_ ?_))
     (refine clr_ w8 (by assumption) (by omega) ?_; rintro _ plD sdD ⟨hb, rfl, hhb⟩ z4 z5 z6; (conv => whnf))
     (repeat (refine stg_ ?_))
     refine ⟨_, _, ⟨⟨nm, cd, ad, ⟨ls⟩, ps, xs, hb⟩, ⟨y7, y8⟩, rfl, rfl⟩, ?_, plD, sdD, _, by omega, by omega, z6, rfl⟩
     refine ⟨⟨[some 7, some 8, some 9], ⟨by decide, rfl, trivial, by decide, rfl, trivial, by decide, rfl, trivial, trivial⟩, by decide, ⟨rfl, ?_⟩⟩⟩
     exact rn_
structure DsV (s : TGlyphSet) : Prop where
 ok : gsB s = true
 ln : s.fGlyphs.length ≤ 4
 gl : ∀ g ∈ s.fGlyphs, DgV g
def DsQ (v : V) (bs : List Blk) : Prop := ∃ s : TGlyphSet, DsV s ∧ ((v = .st [.d (.int .i64 s.fUnit), .own 1 0 s.fGlyphs.length] ∧ bs = [.arr 7 (s.fGlyphs.map TGlyph.D) true]) ∨ (s.fGlyphs = [] ∧ v = .st [.d (.int .i64 s.fUnit), .nils] ∧ bs = []))
def trH6 : OT := .q 0 (.q 2 (.q 3 (.alt 1 (.alt 4 (.alt 5 (.alt 6 (.q 7 (.alt 8 .done .nil)) .nil) .nil) .nil) (.alt 4 (.q 1 (.alt 5 (.alt 6 (.q 7 (.alt 8 .done .nil)) .nil) .nil)) .nil))))
set_option maxHeartbeats 4000000 in
theorem l17Draw_z (code : List UInt8) : PZ Tryz.prog 16 (code.map bD) 2500 [.d (.int .i64 4)] DsQ := by
 refine pz_intro ttOk (by kernel_rfl) Tryz.func16 rfl (by kernel_rfl) (by kernel_rfl) (by rfl) (by rfl) (fun k s0 g t cc pl sd hw hst hpl => ?_)
 have p5 := pick_e code 5
 have cG := fun kk hk => l17DrawGlyph_z code kk hk
 (conv => whnf)
 (repeat (refine stg_ ?_))
 (refine CallW.inl ttOk (by kernel_rfl) Tryz.func44 rfl (by kernel_rfl) (by kernel_rfl) (by rfl) (fun s => ?_); (conv => whnf))
 (repeat ((fail_if_success (with_reducible apply RegD.id)); (refine stg_ ?_)))
 (refine clr_ p5 (by assumption) (by omega) ?_; rintro _ pl1 sd1 ⟨x, rfl, hx0, hx⟩ hl1 hl2 hs1; (conv => whnf))
 have hy : ∃ m : Int, [D.int .i64 1000, D.int .i64 1000, D.int .i64 2048, D.int .i64 16, D.int .i64 16384][x.toNat]? = some (.int .i64 m) := by
  obtain rfl | rfl | rfl | rfl | rfl : x = 0 ∨ x = 1 ∨ x = 2 ∨ x = 3 ∨ x = 4 := by omega
  all_goals exact ⟨_, rfl⟩
 obtain ⟨m, he⟩ := hy
 (repeat (refine stg_ ?_))
 (refine And.intro rfl ?_; (conv => whnf))
 (repeat (refine stg_ ?_))
 (refine clr_ p5 (by assumption) (by omega) ?_; rintro _ pl2 sd2 ⟨q, rfl, hq0, hq⟩ hl3 hl4 hs2; (conv => whnf))
 (repeat (refine stg_ ?_))
 refine LoopW.go (α := Int × Int × Nat × List TGlyph) (fun p => [(0, .pB 2 [] 0), (4, .pB 4 [] 0), (5, .pB 7 [] 0), (6, .d (.int .i64 q)), (7, .d (.int .i64 p.2.2.1))]) (fun p => [.gone, .gho k s0 g 4 t, .box (.d (srcR cc p.1 p.2.1)), .keep [(0, .d (.lst (code.map bD)))] (fun _ => cc), .box (.st [.d (.int .i64 0), .nils]), .gone, .gone, .box (.st [.d (.int .i64 m), .own 8 0 p.2.2.2.length]), .arr 7 (p.2.2.2.map TGlyph.D) true])
  (fun p => pl ≤ p.1 ∧ p.1 ≤ pl + 4 + 600 * p.2.2.1 ∧ stOK p.1 p.2.1 ∧ p.2.2.1 ≤ 4 ∧ p.2.2.2.length = p.2.2.1 ∧ ∀ y ∈ p.2.2.2, DgV y) (fun p => 4 - p.2.2.1) (pl2, sd2, 0, []) (Weak.trans (Weak.adoptL 7 [.d (.int .i64 m)] rfl rfl 7 true) (Weak.cov ?_ ?_ ?_)) ⟨by dsimp only; omega, by dsimp only; omega, hs2, by dsimp only; omega, rfl, by simp⟩ ?_
 ·exact cv_
 ·exact cv_
 ·rfl
 rintro ⟨pl3, sd3, j, gs⟩ ⟨k1, k2, k3, k4, k5, k6⟩
 dsimp only at k1 k2 k3 k4 k5 k6 ⊢
 have hL : (gs.map TGlyph.D).length = gs.length := List.length_map _
 (conv => whnf)
 (repeat (refine stg_ ?_))
 (refine br_ (fun h1 => ?_) (fun h1 => ?_))
 ·have cj := cG j (by omega)
  (repeat ((fail_if_success (with_reducible apply RegD.id)); (refine stg_ ?_)))
  have hap : ∀ y : TGlyph, Blk.arr 7 ((gs.map TGlyph.D).take gs.length ++ [y.D]) true = Blk.arr 7 ((gs ++ [y]).map TGlyph.D) true := fun y => by
   rw [List.take_of_length_le (by omega), List.map_append]; rfl
  refine RegD.cutS (fun e h => ∃ pl' sd', ∃ y : TGlyph, pl3 ≤ pl' ∧ pl' ≤ pl3 + 600 ∧ stOK pl' sd' ∧ DgV y ∧ e = [(0, .pB 2 [] 0), (4, .pB 4 [] 0), (5, .pB 7 [] 0), (6, .d (.int .i64 q)), (7, .d (.int .i64 ((j : Nat) : Int)))] ∧ h = [.gone, .gho k s0 g 4 t, .box (.d (srcR cc pl' sd')), .keep [(0, .d (.lst (code.map bD)))] (fun _ => cc), .box (.st [.d (.int .i64 0), .nils]), .gone, .gone, .box (.st [.d (.int .i64 m), .own 8 0 (gs ++ [y]).length]), .arr 7 ((gs ++ [y]).map TGlyph.D) true]) trH6 (by kernel_rfl) ?_ ?_
  ·(conv => whnf)
   (repeat ((fail_if_success (with_reducible apply RegD.id)); (refine stg_ ?_)))
   refine And.intro ?_ ?_ <;> (conv => whnf)
   all_goals (repeat ((fail_if_success (with_reducible apply RegD.id)); (refine stg_ ?_)))
   all_goals ((refine clzr_ cj (by assumption) (by omega) ?_; rintro v bs pl4 sd4 ⟨y, hy, rfl, rfl⟩ z1 z2 z3 <;> refine ⟨rfl, ?_⟩ <;> (conv => whnf)))
   all_goals (have hL1 : (y.fOutline.fLoops.map TLoop.D).length = y.fOutline.fLoops.length := List.length_map _)
   all_goals (have hL2 : (y.fParts.map TPart.D).length = y.fParts.length := List.length_map _)
   all_goals (have hL3 : (y.fAnchors.map TAnchor.D).length = y.fAnchors.length := List.length_map _)
   all_goals (repeat (first | ((with_reducible apply ApW.id); (refine ApW.at (by simp only [List.length_cons, List.length_nil]; show _ ≤ 9223372036854775807; omega) (by simp only [List.length_cons, List.length_nil]; show _ * 120 ≤ 140737488355328; omega) ?_; (conv => whnf))) | ((fail_if_success (with_reducible apply RegD.id)); (fail_if_success (with_reducible apply ApW.id)); (refine stg_ ?_))))
   all_goals (refine ⟨_, _, ⟨pl4, sd4, y, by omega, by omega, z3, hy, rfl, rfl⟩, ?_⟩)
   all_goals rw [show (gs ++ [y]).length = gs.length + 1 from by simp]
   all_goals (refine Weak.cov ?_ ?_ ?_)
   all_goals first | (focus ((repeat' (first | exact trivial | with_reducible rfl | with_reducible exact hap y | (refine ⟨?_, ?_⟩) | exact hap y | rfl)); done)) | rfl
  ·rintro e h ⟨pl4, sd4, y, z1, z2, z3, z4, rfl, rfl⟩
   (conv => whnf)
   (repeat (refine stg_ ?_))
   refine NextW.go (pl4, sd4, j + 1, gs ++ [y]) covT_ ⟨by dsimp only; omega, by dsimp only; omega, z3, by dsimp only; omega, by simp; omega, ?_⟩ (by dsimp only; omega)
   intro x hx
   rcases List.mem_append.1 hx with hx | hx
   ·exact k6 x hx
   ·obtain rfl : x = y := by simpa using hx
    exact z4
 ·have cO := l17Ok_v ⟨m, gs⟩
  cases hB : gsB ⟨m, gs⟩ <;> rw [hB] at cO
  ·(repeat (refine stg_ ?_))
   (refine cla_ (cO) ?_)
   (repeat (refine stg_ ?_))
   refine ⟨_, _, ⟨⟨1000, []⟩, ⟨by decide, by simp, by simp⟩, .inr ⟨rfl, rfl, rfl⟩⟩, ?_, pl3, sd3, _, by omega, by omega, k3, rfl⟩
   refine ⟨⟨[], trivial, by decide, ⟨rfl, ?_⟩⟩⟩
   exact rn_
  ·(repeat (refine stg_ ?_))
   (refine cla_ (cO) ?_)
   (repeat (refine stg_ ?_))
   refine ⟨_, _, ⟨⟨m, gs⟩, ⟨hB, by dsimp only; omega, k6⟩, .inl ⟨rfl, rfl⟩⟩, ?_, pl3, sd3, _, by omega, by omega, k3, rfl⟩
   refine ⟨⟨[some 8], ⟨by decide, rfl, trivial, trivial⟩, by decide, ⟨rfl, ?_⟩⟩⟩
   exact rn_
theorem dg_cn {g : TGlyph} (h : DgV g) : cnK g.fOutline.fLoops ≤ 100 ∧ g.fOutline.fLoops.length ≤ 100 := by
 have key : ∀ ls : List TLoop, (∀ l ∈ ls, l.fKnots.length ≤ 9) → cnK ls ≤ 9 * ls.length := by
  intro ls
  induction ls with
  | nil => intro _; simp [cnK]
  | cons l t ih =>
   intro h
   have h1 := ih (fun x hx => h x (by simp [hx]))
   have h2 := h l (by simp)
   rw [cnK, List.length_cons]
   omega
 have h1 := key _ h.lk
 have h2 := h.ll
 omega
structure VaV (s : TGlyphSet) (v : TVariation) : Prop where
 gs : gsB s = true
 gl : s.fGlyphs.length ≤ 4
 gd : ∀ g ∈ s.fGlyphs, DgV g
 ok : vvB v s = true
 va : DvV s.fGlyphs.length v
def VaQ (v : V) (bs : List Blk) : Prop := ∃ vs xs, v = .tup vs ∧ Frzs 0 (.gone :: bs) vs xs ∧ ∃ (s : TGlyphSet) (y : TVariation), VaV s y ∧ xs = [s.D, y.D]
theorem vv_nil {s : TGlyphSet} (h : gsB s = true) : vvB ⟨[], []⟩ s = true := by
 have h1 : vvB ⟨[], []⟩ s = (wfB ⟨[], []⟩ && (gsB s && true)) := rfl
 rw [h1, h]; decide
def trI6 : OT := .q 0 (.alt 1 (.alt 2 (.alt 3 .done .nil) .nil) (.alt 2 (.q 1 (.alt 3 .done .nil)) .nil))
set_option maxHeartbeats 4000000 in
theorem A2Variation_y (code : List UInt8) : PX Tryz.prog 5 [.d (.lst (code.map bD))] VaQ := by
 refine px_intro ttOk (by kernel_rfl) Tryz.func5 rfl (by kernel_rfl) (by kernel_rfl) (by kernel_rfl) (fun hw => ?_)
 have cS := l17Draw_z code
 (conv => whnf)
 (repeat (refine stg_ ?_))
 (refine CallW.inl ttOk (by kernel_rfl) Tryz.func15 rfl (by kernel_rfl) (by kernel_rfl) (by rfl) (fun s => ?_); (conv => whnf))
 (repeat (refine stg_ ?_))
 (refine And.intro rfl ?_; (conv => whnf))
 (repeat (refine stg_ ?_))
 (refine clz0_ cS (by omega) ?_; rintro v bs pl1 sd1 ⟨x, hx, ⟨rfl, rfl⟩ | ⟨hx0, rfl, rfl⟩⟩ hl1 hl2 hs1 <;> refine ⟨rfl, ?_⟩ <;> (conv => whnf))
 ·have hLg : (x.fGlyphs.map TGlyph.D).length = x.fGlyphs.length := List.length_map _
  have cV := l30Draw_z code x hx.ln (fun y hy => dg_cn (hx.gl y hy))
  (repeat (refine stg_ ?_))
  refine clzx_ cV (by assumption) (by omega) ?_ (hr := LentT.cons (Lent1.boxF rfl (by decide) ⟨_, rfl, _, _, rfl, rfl, _, _, rfl, ⟨by decide, rfl, _, _, _, rfl, hLg.symm, rfl⟩, rfl⟩) LentT.nil)
  rintro v bs pl2 sd2 ⟨y, hy, rfl, rfl⟩ hl3 hl4 hs2
  refine ⟨rfl, ?_⟩
  have hLa : (y.fAxes.map TAxis.D).length = y.fAxes.length := List.length_map _
  have hLm : (y.fMasters.map TMaster.D).length = y.fMasters.length := List.length_map _
  have cO := l30Ok_v y x
  (conv => whnf)
  cases hB : vvB y x <;> rw [hB] at cO
  ·(repeat (refine stg_ ?_))
   (refine cla_ (cO) ?_)
   (repeat (refine stg_ ?_))
   refine ⟨_, [.arr 7 (x.fGlyphs.map TGlyph.D) true], ⟨[.st [.d (.int .i64 x.fUnit), .own 1 0 x.fGlyphs.length], .st [.nils, .nils]], _, rfl, ⟨_, _, rfl, ⟨_, rfl, _, _, rfl, rfl, _, _, rfl, ⟨by decide, rfl, _, _, _, rfl, hLg.symm, rfl⟩, rfl⟩, _, _, rfl, ⟨_, rfl, _, _, rfl, rfl, _, _, rfl, rfl, rfl⟩, rfl⟩, x, ⟨[], []⟩, ⟨hx.ok, hx.ln, hx.gl, vv_nil hx.ok, ⟨by simp, by simp, by simp⟩⟩, rfl⟩, ?_⟩
   refine ⟨⟨[some 5], ⟨by decide, rfl, trivial, trivial⟩, by decide, ⟨_, rfl, rfl, ?_⟩⟩⟩
   exact rn_
  ·(repeat (refine stg_ ?_))
   (refine cla_ (cO) ?_)
   (repeat ((fail_if_success (with_reducible apply RegD.id)); (refine stg_ ?_)))
   refine RegD.cutT [(2, .pB 1 [] 0), (3, .pB 2 [] 0)] [.gone, .box (.st [.d (.int .i64 x.fUnit), .own 5 0 x.fGlyphs.length]), .box (.st [.own 7 0 y.fAxes.length, .own 8 0 y.fMasters.length]), .gone, .gone, .arr 7 (x.fGlyphs.map TGlyph.D) true, .gone, .arr 5 (y.fAxes.map TAxis.D) true, .arr 2 (y.fMasters.map TMaster.D) true] trI6 (by kernel_rfl) ?_ ?_
   ·(conv => whnf)
    (repeat ((fail_if_success (with_reducible apply RegD.id)); (refine stg_ ?_)))
    refine And.intro ?_ ?_ <;> (conv => whnf)
    all_goals (repeat ((fail_if_success (with_reducible apply RegD.id)); (refine stg_ ?_)))
    all_goals (refine Weak.cov ?_ ?_ ?_; (focus exact cv_); (focus exact cv_); (focus rfl))
   ·(conv => whnf)
    refine ⟨_, [.arr 7 (x.fGlyphs.map TGlyph.D) true, .arr 5 (y.fAxes.map TAxis.D) true, .arr 2 (y.fMasters.map TMaster.D) true], ⟨[.st [.d (.int .i64 x.fUnit), .own 1 0 x.fGlyphs.length], .st [.own 2 0 y.fAxes.length, .own 3 0 y.fMasters.length]], _, rfl, ⟨_, _, rfl, ⟨_, rfl, _, _, rfl, rfl, _, _, rfl, ⟨by decide, rfl, _, _, _, rfl, hLg.symm, rfl⟩, rfl⟩, _, _, rfl, ⟨_, rfl, _, _, rfl, ⟨by decide, rfl, _, _, _, rfl, hLa.symm, rfl⟩, _, _, rfl, ⟨by decide, rfl, _, _, _, rfl, hLm.symm, rfl⟩, rfl⟩, rfl⟩, x, y, ⟨hx.ok, hx.ln, hx.gl, hB, hy⟩, rfl⟩, ?_⟩
    refine ⟨⟨[some 5, some 7, some 8], ⟨by decide, rfl, trivial, by decide, rfl, trivial, by decide, rfl, trivial, trivial⟩, by decide, ⟨_, rfl, rfl, ?_⟩⟩⟩
    exact rn_
 ·have hxe : x = ⟨x.fUnit, []⟩ := by cases x; simp_all
  have cV := l30Draw_z code x hx.ln (fun y hy => dg_cn (hx.gl y hy))
  (repeat (refine stg_ ?_))
  refine clzx_ cV (by assumption) (by omega) ?_ (hr := LentT.cons (Lent1.boxF rfl (by decide) (by rw [hxe]; exact ⟨_, rfl, _, _, rfl, rfl, _, _, rfl, rfl, rfl⟩)) LentT.nil)
  rintro v bs pl2 sd2 ⟨y, hy, rfl, rfl⟩ hl3 hl4 hs2
  refine ⟨rfl, ?_⟩
  have hLa : (y.fAxes.map TAxis.D).length = y.fAxes.length := List.length_map _
  have hLm : (y.fMasters.map TMaster.D).length = y.fMasters.length := List.length_map _
  have cO := l30Ok_v y x
  have hxD : x.D = .st [.int .i64 x.fUnit, .lst []] := by rw [hxe]; rfl
  rw [hxD] at cO
  (conv => whnf)
  cases hB : vvB y x <;> rw [hB] at cO
  ·(repeat (refine stg_ ?_))
   (refine cla_ (cO) ?_)
   (repeat (refine stg_ ?_))
   refine ⟨_, [], ⟨[.st [.d (.int .i64 x.fUnit), .nils], .st [.nils, .nils]], _, rfl, ⟨_, _, rfl, ⟨_, rfl, _, _, rfl, rfl, _, _, rfl, rfl, rfl⟩, _, _, rfl, ⟨_, rfl, _, _, rfl, rfl, _, _, rfl, rfl, rfl⟩, rfl⟩, x, ⟨[], []⟩, ⟨hx.ok, hx.ln, hx.gl, vv_nil hx.ok, ⟨by simp, by simp, by simp⟩⟩, by rw [hxD]; rfl⟩, ?_⟩
   refine ⟨⟨[], trivial, by decide, ⟨_, rfl, rfl, ?_⟩⟩⟩
   exact rn_
  ·(repeat (refine stg_ ?_))
   (refine cla_ (cO) ?_)
   (repeat ((fail_if_success (with_reducible apply RegD.id)); (refine stg_ ?_)))
   refine RegD.cutT [(2, .pB 1 [] 0), (3, .pB 2 [] 0)] [.gone, .box (.st [.d (.int .i64 x.fUnit), .nils]), .box (.st [.own 6 0 y.fAxes.length, .own 7 0 y.fMasters.length]), .gone, .gone, .gone, .arr 5 (y.fAxes.map TAxis.D) true, .arr 2 (y.fMasters.map TMaster.D) true] trI6 (by kernel_rfl) ?_ ?_
   ·(conv => whnf)
    (repeat ((fail_if_success (with_reducible apply RegD.id)); (refine stg_ ?_)))
    refine And.intro ?_ ?_ <;> (conv => whnf)
    all_goals (repeat ((fail_if_success (with_reducible apply RegD.id)); (refine stg_ ?_)))
    all_goals (refine Weak.cov ?_ ?_ ?_; (focus exact cv_); (focus exact cv_); (focus rfl))
   ·(conv => whnf)
    refine ⟨_, [.arr 5 (y.fAxes.map TAxis.D) true, .arr 2 (y.fMasters.map TMaster.D) true], ⟨[.st [.d (.int .i64 x.fUnit), .nils], .st [.own 1 0 y.fAxes.length, .own 2 0 y.fMasters.length]], _, rfl, ⟨_, _, rfl, ⟨_, rfl, _, _, rfl, rfl, _, _, rfl, rfl, rfl⟩, _, _, rfl, ⟨_, rfl, _, _, rfl, ⟨by decide, rfl, _, _, _, rfl, hLa.symm, rfl⟩, _, _, rfl, ⟨by decide, rfl, _, _, _, rfl, hLm.symm, rfl⟩, rfl⟩, rfl⟩, x, y, ⟨hx.ok, hx.ln, hx.gl, hB, hy⟩, by rw [hxD]; rfl⟩, ?_⟩
    refine ⟨⟨[some 6, some 7], ⟨by decide, rfl, trivial, by decide, rfl, trivial, trivial⟩, by decide, ⟨_, rfl, rfl, ?_⟩⟩⟩
    exact rn_
theorem A2Variation_x (code : List UInt8) : PX Tryz.prog 5 [.d (.lst (code.map bD))] (fun v bs => ∃ xs, (∃ (s : TGlyphSet) (y : TVariation), VaV s y ∧ xs = [s.D, y.D]) ∧ v = .tup (xs.map V.d) ∧ bs = []) :=
 (A2Variation_y code).frzT fun _ _ h => h
end Go.Proofs.YtpdeibhedafcfaaGreatDoor
/- The abstract machine: the steps of a walk, each with its script. Leans on no program. -/
import Derived.Test.YtdeafbgnbgihgaaVMIn
set_option linter.unusedSimpArgs false
set_option linter.unusedVariables false
namespace Go.Proofs.Ytdeafbgnbgihgaa
open Go.RowKit

structure Hd (Q : Prop) : Prop where
  out : Q
theorem stg_ {P Q : Prop} (H : Q) (h : Hd Q → P := by
  (intro H
   first
    | ((with_reducible apply IxW.id); apply IxW.map; (focus assumption))
    | ((with_reducible apply IoW.id); apply IoW.at; (focus omega); (focus omega))
    | ((with_reducible apply ArW.id); apply ArW.i64; (focus omega))
    | ((with_reducible apply ArW.id); apply ArW.u64; (focus omega))
    | ((with_reducible apply ArW.id); apply ArW.u32; (focus omega))
    | ((with_reducible apply ArW.id); apply ArW.u8; (focus omega))
    | ((with_reducible apply EqW.id); apply EqW.at; (focus (first | rfl | omega | (simp; done))))
    | ((with_reducible apply FlW.id); apply FlW.map; (focus (intro y; exact ⟨rfl, rfl⟩)))
    | ((with_reducible apply FlW.id); apply FlW.mapX; (focus (intro y; rfl)))
    | ((with_reducible apply SzW.id); apply SzW.map; (focus (intro y; rfl)))
    | ((with_reducible apply ApW.id); apply ApW.at; (focus (first | omega | (simp only [maxLen, List.length_cons, List.length_nil, List.length_map, List.length_append, List.length_take, List.length_drop, Nat.reduceMul, Nat.reduceAdd]; omega) | (simp [maxLen]; done) | (simp [maxLen]; omega))); (focus ((conv => lhs; arg 2; whnf); (first | omega | (simp only [maxLen, List.length_cons, List.length_nil, List.length_map, List.length_append, List.length_take, List.length_drop, Nat.reduceMul, Nat.reduceAdd]; omega) | (simp [maxLen]; done) | (simp [maxLen]; omega)))))
    | ((with_reducible apply MkW.id); apply MkW.at; (focus (first | omega | (simp only [maxLen, List.length_cons, List.length_nil, List.length_map, List.length_append, List.length_take, List.length_drop, Nat.reduceMul, Nat.reduceAdd]; omega) | (simp [maxLen]; done) | (simp [maxLen]; omega))); (focus (first | omega | (simp only [maxLen, List.length_cons, List.length_nil, List.length_map, List.length_append, List.length_take, List.length_drop, Nat.reduceMul, Nat.reduceAdd]; omega) | (simp [maxLen]; done) | (simp [maxLen]; omega))); (focus (first | omega | (simp only [maxLen, List.length_cons, List.length_nil, List.length_map, List.length_append, List.length_take, List.length_drop, Nat.reduceMul, Nat.reduceAdd]; omega) | (simp [maxLen]; done) | (simp [maxLen]; omega))))
    | ((with_reducible apply EoW.id); apply EoW.at; (focus assumption))
    | ((with_reducible apply NzW.id); apply NzW.mk'; (focus omega))
    | ((with_reducible apply OffW.id); apply OffW.at; (focus (first | omega | (simp only [maxLen, List.length_cons, List.length_nil, List.length_map, List.length_append, List.length_take, List.length_drop, Nat.reduceMul, Nat.reduceAdd]; omega) | (simp [maxLen]; done) | (simp [maxLen]; omega))))
    | ((with_reducible apply BnW.id); apply BnW.at; (focus omega))
    | ((with_reducible apply SlW.id); apply SlW.at; (focus (first | omega | (simp only [maxLen, List.length_cons, List.length_nil, List.length_map, List.length_append, List.length_take, List.length_drop, Nat.reduceMul, Nat.reduceAdd]; omega) | (simp [maxLen]; done) | (simp [maxLen]; omega))); (focus (first | omega | (simp only [maxLen, List.length_cons, List.length_nil, List.length_map, List.length_append, List.length_take, List.length_drop, Nat.reduceMul, Nat.reduceAdd]; omega) | (simp [maxLen]; done) | (simp [maxLen]; omega))))
    | ((with_reducible apply TkW.id); apply TkW.at; (focus (first | rfl | exact (List.length_map _).symm | exact List.length_replicate.symm)))
    | ((with_reducible apply LtW.id); apply LtW.at; (focus omega))
    | ((with_reducible apply ChW.id); apply ChW.at; (focus omega); (focus assumption))
    | ((with_reducible apply RegD.id); apply RegD.auto; (focus kernel_rfl))
   (conv => whnf)
   exact H.out)) : P := h ⟨H⟩
theorem br_ {b : Bool} {A B A' B' p q : Prop} (h1 : p → A') (h2 : q → B') (e1 : b = true → p := by (intro h; (try simp only [decide_eq_true_eq, decide_eq_false_iff_not, Bool.not_eq_true', Bool.not_eq_false', bne_iff_ne, ne_eq, beq_iff_eq, bne_eq_false_iff_eq, beq_eq_false_iff_ne, Decidable.not_not, Nat.not_lt, Nat.not_le, Int.not_lt, Int.not_le, Bool.and_eq_true, Bool.and_eq_false_iff, Bool.or_eq_true, Bool.or_eq_false_iff] at h); exact h)) (e2 : b = false → q := by (intro h; (try simp only [decide_eq_true_eq, decide_eq_false_iff_not, Bool.not_eq_true', Bool.not_eq_false', bne_iff_ne, ne_eq, beq_iff_eq, bne_eq_false_iff_eq, beq_eq_false_iff_ne, Decidable.not_not, Nat.not_lt, Nat.not_le, Int.not_lt, Int.not_le, Bool.and_eq_true, Bool.and_eq_false_iff, Bool.or_eq_true, Bool.or_eq_false_iff] at h); exact h))
    (w1 : A' → A := by (intro H; (conv => whnf); exact H)) (w2 : B' → B := by (intro H; (conv => whnf); exact H)) : BIf b A B := BIf.mk (fun h => w1 (h1 (e1 h))) (fun h => w2 (h2 (e2 h)))
section
variable {P : Program} {dr : Bool} {f : FuncId} {vs : List V} {e : Env} {h : List Blk} {K : V → Env → List Blk → Prop} {As : List V} {v : V} {bs : List Blk} {Q : Prop}
theorem cla_ (pc : PC P f As v bs) (H : Q) (hb : borVs h vs As := by ((repeat' (first | exact trivial | with_reducible rfl | ((conv => whnf); first | done | exact trivial | with_reducible rfl | (exact Or.inr ⟨rfl, rfl, rfl, rfl⟩) | (refine Or.inl ⟨_, rfl, ?_⟩) | (refine ⟨rfl, _, rfl, ?_⟩) | (refine ⟨_, _, rfl, ?_, ?_⟩) | (refine ⟨_, rfl, ?_⟩) | ((refine ⟨?_, ?_⟩); (focus (first | (simp; done) | omega)); (focus ((first | rw [List.drop_zero, List.take_of_length_le (Nat.le_of_eq (List.length_map _))] | rw [List.drop_zero, List.take_of_length_le (by omega)] | rfl); done))) | rfl))); (first | done | fail))) (hf : (v.fit (!V.exts vs) && fitBs (!V.exts vs) bs && Nat.ble 1 h.length) = true := by rfl)
    (hk : Q → K (v.shift (h.length - 1)) e (h ++ shiftBs (h.length - 1) bs) := by (intro H; (conv => whnf); exact H)) : CallW P dr f vs e h K := CallW.use pc hb hf (hk H)
theorem cl_ (pc : PC P f As v bs) (H : Q) (hb : borVs h vs As := by ((repeat ((conv => whnf); (refine ⟨_, _, rfl, ?_, ?_⟩); (focus (first | ((conv => whnf); done) | ((conv => whnf); first | exact ⟨_, rfl, rfl⟩ | exact ⟨rfl, _, rfl, rfl⟩))))); (conv => whnf))) (hf : (v.fit (!V.exts vs) && fitBs (!V.exts vs) bs && Nat.ble 1 h.length) = true := by rfl)
    (hk : Q → K (v.shift (h.length - 1)) e (h ++ shiftBs (h.length - 1) bs) := by (intro H; (conv => whnf); exact H)) : CallW P dr f vs e h K := CallW.use pc hb hf (hk H)
theorem clk_ {n b len : Nat} {xs ys : List D} {rest : List V} (pk : PK P f n xs rest v ys) (H : Q) (hb : h[b]? = some (.arr n xs true) := by rfl) (hl : len = xs.length := by (first | rfl | exact (List.length_map _).symm | (simp; done) | omega)) (hb0 : Nat.ble 1 b = true := by rfl)
    (hr : plains rest = true := by rfl) (hv : v.resOK = true := by rfl) (hk : Q → K v e (h.set b (.arr n ys true)) := by (intro H; (conv => whnf); exact H)) : CallW P false f (.own b 0 len :: rest) e h K := CallW.useK pk hb hl hb0 hr hv (hk H)
end
theorem covT_ {e e' : Env} {h h' : List Blk} (h1 : cov e e' := by repeat' (first | exact trivial | with_reducible rfl | (refine ⟨?_, ?_⟩) | rfl)) (h2 : covH h h' := by repeat' (first | exact trivial | with_reducible rfl | (refine ⟨?_, ?_⟩) | rfl))
    (h3 : (scE h' e' && scH h' h' && (match h' with | .gone :: _ => true | _ => false)) = true := by rfl) : Weak e h e' h' := Weak.cov h1 h2 h3
end Go.Proofs.Ytdeafbgnbgihgaa

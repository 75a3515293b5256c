/- The abstract machine: a box of plain values said as one datum. Leans on no program. -/
import Derived.Test.YtcachhipflibkaaGreatVMBox
set_option linter.unusedSimpArgs false
set_option linter.unusedVariables false
namespace Go.Proofs.YtcachhipflibkaaGreat
open Go.RowKit
theorem Weak.boxz {e : Env} {h : List Blk} (b : Nat) {v : V} {z : D} (hb : h[b]? = some (.box v)) (hb0 : Nat.ble 1 b = true) (hz : zD v = some z) : Weak e h e (h.set b (.box (.d z))) :=
  Weak.box b hb hb0 fun w M h cs H => by
    show repD M.O w z cs
    exact ownD_rep z [] cs (by simp) (zD_own v z cs hz H).1
end Go.Proofs.YtcachhipflibkaaGreat

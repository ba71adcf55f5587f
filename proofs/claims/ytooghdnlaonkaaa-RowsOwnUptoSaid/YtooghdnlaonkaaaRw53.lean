/- Several of my texts in one: WRowsR. -/
import Derived.Test.YtooghdnlaonkaaaRw47
import Derived.Test.YtooghdnlaonkaaaRw52
import Derived.Test.YtooghdnlaonkaaaRw51
/- The walk of RowsOwn, with all contracts. -/
namespace Go.Proofs.Ytooghdnlaonkaaa
open Go.RowKit

theorem rows_all (a : Option Addr) (n cap : Nat) (z : List Int) (ap : Option Addr) (lp kp : Nat) (aq : Option Addr) (lq kq : Nat) (m : Int) (al : Option Addr) (ll kl : Nat) (w : World)
    (h0 : IsRow .i64 w a n cap z) (hp : IsMatU w ap lp kp) (hq : IsMatU w aq lq kq) (hl : IsMatU w al ll kl) (sz : n ≤ 1048576) :
    Calls Try.prog 4 #[.slice a n cap, .agg #[.slice ap lp kp, .slice aq lq kq], .int .i64 m, .slice al ll kl] w fun e w' => e = .returned (.bool true) ∧ Below w.heap.size w w' :=
  rows_row turnsOk (fun n R m a cap w h1 h2 h3 h4 => grpU n R m a cap w h1 h2 h3 h4) (fun n R m a cap z q b cb w h1 h2 h3 h4 h5 h6 h7 h8 => lstU n R m a cap z q b cb w h1 h2 h3 h4 h5 h6 h7 h8) a n cap z ap lp kp aq lq kq m al ll kl w h0 hp hq hl sz
end Go.Proofs.Ytooghdnlaonkaaa

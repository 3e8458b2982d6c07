/- IsLambda on both sides. -/
import Derived.Test.YtejojliljplcdaaGreatDoorWordL
import Derived.Deep.RegionWith
namespace Go.Proofs.YtejojliljplcdaaGreatDoor
open Go.RowKit
set_option linter.unusedVariables false

/-- all lists have the length and the stem of the first -/
def sameB (q : List Int → Int) (xss : List (List Int)) : Bool := xss.all (fun y => decide (q y = q (xss.headD [])))
def lenI (xs : List Int) : Int := xs.length
def isLB (xss : List (List Int)) : Bool := decide (xss.length ≤ 2000) && risB xss && xss.all wordB && sameB (psT 0) xss && sameB lenI xss

/-- a function of lists that is handed in: what is known of it -/
structure FunL (fid : Nat) (q : List Int → Int) : Prop where
  enters : ∀ args w, (callFunc fid args).run Tryz.prog w = .ok (.enter fid args) w
  calls : ∀ (A : Option Addr) (n c B : Nat) (xs : List Int) (w : World), RdS w B A n c xs → n ≤ 2000000 → Calls Tryz.prog fid #[.slice A n c] w (RetI (q xs) w)

end Go.Proofs.YtejojliljplcdaaGreatDoor

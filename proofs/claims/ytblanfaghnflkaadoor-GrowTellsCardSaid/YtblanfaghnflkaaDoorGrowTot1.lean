/- GrowTells: grow's calls with the error written out. -/
import Derived.Test.YtblanfaghnflkaaDoorGrowTot
namespace Go.Proofs.YtblanfaghnflkaaDoor
open Go.RowKit
theorem more_v (C : Option Addr) (cc : Nat) (caps : List Int) (P : Option Addr) (cp : Nat) (paths : List (List Int)) (A : Option Addr) (c : Nat) (path : List Int) (B : Nat) (w : World) (hB : B ≤ w.heap.size) (hc : Ints w B C cc caps) (hp : Rows2 w B P cp paths) (hi : Ints w B A c path) (e : Int) (S : List Fr) (he : addErr caps paths path = e) (hS : RatesIs e caps (paths ++ [path]) S) (V : Value) (hV : errVal e = V) (n : Nat) (hn : S.length = n) :
    Calls Tryd.prog 71 #[.agg #[.slice C caps.length cc, .slice P paths.length cp], .slice A path.length c] w fun r w' => ∃ A1 c1, r = .returned (.tuple #[.slice A1 n c1, V]) ∧ Frs w' w'.heap.size A1 c1 S ∧ Below w.heap.size w w' := by
  subst hV hn; exact more_tot C cc caps P cp paths A c path B w hB hc hp hi e S he hS
theorem fewer_v (C : Option Addr) (cc : Nat) (caps : List Int) (P : Option Addr) (cp : Nat) (paths : List (List Int)) (flow : Int) (B : Nat) (w : World) (hB : B ≤ w.heap.size) (hc : Ints w B C cc caps) (hp : Rows2 w B P cp paths) (e : Int) (S : List Fr) (he : dropErr caps paths flow = e) (hS : RatesIs e caps (paths.eraseIdx flow.toNat) S) (V : Value) (hV : errVal e = V) (n : Nat) (hn : S.length = n) :
    Calls Tryd.prog 72 #[.agg #[.slice C caps.length cc, .slice P paths.length cp], .int .i64 flow] w fun r w' => ∃ A1 c1, r = .returned (.tuple #[.slice A1 n c1, V]) ∧ Frs w' w'.heap.size A1 c1 S ∧ Below w.heap.size w w' := by
  subst hV hn; exact fewer_tot C cc caps P cp paths flow B w hB hc hp e S he hS
theorem wider_v (C : Option Addr) (cc : Nat) (caps : List Int) (P : Option Addr) (cp : Nat) (paths : List (List Int)) (link by_ : Int) (B : Nat) (w : World) (hB : B ≤ w.heap.size) (hc : Ints w B C cc caps) (hp : Rows2 w B P cp paths) (e : Int) (S : List Fr) (he : widerErr caps paths link by_ = e) (hS : RatesIs e (caps.set link.toNat (caps.getD link.toNat 0 + by_)) paths S) (V : Value) (hV : errVal e = V) (n : Nat) (hn : S.length = n) :
    Calls Tryd.prog 73 #[.agg #[.slice C caps.length cc, .slice P paths.length cp], .int .i64 link, .int .i64 by_] w fun r w' => ∃ A1 c1, r = .returned (.tuple #[.slice A1 n c1, V]) ∧ Frs w' w'.heap.size A1 c1 S ∧ Below w.heap.size w w' := by
  subst hV hn; exact wider_tot C cc caps P cp paths link by_ B w hB hc hp e S he hS
theorem rates_no (e : Int) (h : e ≠ 0) (caps : List Int) (paths : List (List Int)) : RatesIs e caps paths [] := ⟨fun _ => rfl, fun h1 => absurd h1 h⟩
end Go.Proofs.YtblanfaghnflkaaDoor

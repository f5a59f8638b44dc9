/- The runs of ServeNobody. -/
import Derived.Test.YtnpkghopofokhaaGreatDoorS2Ents
namespace Go.Am
open Go.Proofs
set_option maxRecDepth 100000
noncomputable def nb (n e : Nat) : Ent := { f := 3, args := [.sl 8 0 n none], nx := 9, part := mkT [(4, .glob (.puts .lf 0 [.any]) 178), (8, .glob (T.lf.puts 0 (List.replicate n .any)) e)], v := .bool true, out := .lf, nx' := 6453 }
noncomputable def nbMany (n : Nat) : Ent := { f := 3, args := [.sl 8 0 n none], nx := 9, part := mkT [(4, .glob (.puts .lf 0 [.any]) 178)], v := .bool true, out := .lf, nx' := 6453 }
noncomputable def nbNil : Ent := { f := 3, args := [.nils], nx := 9, part := mkT [(4, .glob (.puts .lf 0 [.any]) 178)], v := .bool true, out := .lf, nx' := 6453 }
noncomputable def nbZero : Ent := { f := 3, args := [.sl0], nx := 9, part := mkT [(4, .glob (.puts .lf 0 [.any]) 178)], v := .bool true, out := .lf, nx' := 6453 }
theorem nbMany_run (m : Nat) : runE [a17] pg 100000 200 (nbMany (m + 51)) = true := by kernel_rfl
theorem nbNil_run : runE [a17] pg 100000 200 nbNil = true := by kernel_rfl
theorem nbZero_run : runE [a17] pg 100000 200 nbZero = true := by kernel_rfl
end Go.Am

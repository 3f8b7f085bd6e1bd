/-
  Contracts: Values of both, List of both.
  Lengths within the rows' own reach.
-/
import Derived.Test.YtalbadmefpdldaaDoorHdrE
namespace Go.Proofs.YtalbadmefpdldaaDoor.Asc
open Go Go.RowKit Go.Proofs.YtalbadmefpdldaaDoor.Pb

def values (l : List Fd) (ns : List (List UInt8)) : List (List UInt8) := (l.filter fun f => sameIn f.1 ns).map fun f => f.2
theorem values_snoc (l : List Fd) (ns : List (List UInt8)) (k : Nat) (x : Fd) (h : l[k]? = some x) : values (l.take (k + 1)) ns = values (l.take k) ns ++ (if sameIn x.1 ns = true then [x.2] else []) := by
  unfold values
  rw [List.take_add_one, h, List.filter_append, List.map_append]
  cases hs : sameIn x.1 ns <;> simp [hs]
theorem values_len (l : List Fd) (ns : List (List UInt8)) (k : Nat) : (values (l.take k) ns).length ≤ k := by
  unfold values
  rw [List.length_map]
  have := List.length_filter_le (fun f : Fd => sameIn f.1 ns) (l.take k)
  rw [List.length_take] at this; omega

theorem infoS : (Tryd.prog.info? 9).map (fun i => (i.zero, i.size, i.bytes)) = some (some (.string ByteArray.empty), 1, 16) := by kernel_rfl

end Go.Proofs.YtalbadmefpdldaaDoor.Asc

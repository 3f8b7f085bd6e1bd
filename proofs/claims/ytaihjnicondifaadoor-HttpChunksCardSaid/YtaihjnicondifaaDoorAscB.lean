/-
  Contracts of parapetalike.Texts, Total and of the reference's In, Token, Lower, Same: what each answers; nothing that was there turns.
  Texts within the row's own reach.
-/
import Derived.Test.YtaihjnicondifaaDoorAscA
import Derived.Deep.QuietTactic
import Derived.BigQuiet
namespace Go.Proofs.YtaihjnicondifaaDoor.Asc
open Go Go.RowKit Go.Proofs.YtaihjnicondifaaDoor.Pb

theorem all_get (s : ByteArray) (k : Nat) (h : k < s.size) {p : UInt8 → Bool} (hp : (toL s).all p = true) : p s[k] = true := by
  rw [← toL_get s k h]; exact List.all_eq_true.1 hp _ (List.getElem_mem _)
theorem take_snoc (s : ByteArray) (k : Nat) (h : k < s.size) : (toL s).take (k + 1) = (toL s).take k ++ [s[k]] := by
  rw [List.take_add_one, getD_toL s k h]; rfl
theorem take_all (s : ByteArray) : (toL s).take s.size = toL s := List.take_of_length_le (by rw [toL_len]; exact Nat.le_refl _)

theorem marks_lit : toL { data := #[33, 35, 36, 37, 38, 39, 42, 43, 45, 46, 94, 95, 124, 126, 96] } = marks := rfl
theorem lower_take (s : ByteArray) (k : Nat) (h : k < s.size) : lower ((toL s).take (k + 1)) = lower ((toL s).take k) ++ [lowerB s[k]] := by
  rw [take_snoc s k h]; simp [lower]
theorem info5 : (Tryd.prog.info? 5).map (fun i => (i.zero, i.size, i.bytes)) = some (some (.int .u8 0), 1, 1) := by kernel_rfl

theorem lt_get {α : Type} {l : List α} {k : Nat} (h : k < l.length) : l[k]? = some l[k] := List.getElem?_eq_getElem h

end Go.Proofs.YtaihjnicondifaaDoor.Asc

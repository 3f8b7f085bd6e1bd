/-
  Contracts of package header's tests of bytes, of every, of Essence, and of the reference's.
  Lengths within the rows' own reach.
-/
import Derived.Test.YtilpaopkhghicaaDoorHdrA
import Derived.Test.YtilpaopkhghicaaDoorHdrP
namespace Go.Proofs.YtilpaopkhghicaaDoor.Asc
open Go Go.RowKit Go.Proofs.YtilpaopkhghicaaDoor.Pb

def isCtl (c : UInt8) : Bool := decide (c.toNat < 32) && !decide (c.toNat = 9) || decide (c.toNat = 127)
/-- "():<>?@[\]{} -/
def unsafes : List UInt8 := [34, 40, 41, 58, 60, 62, 63, 64, 91, 92, 93, 123, 125]
def isSafe (c : UInt8) : Bool := !hasB unsafes c && !isCtl c
/-- blank*,-.;= -/
def langs : List UInt8 := [32, 42, 44, 45, 46, 59, 61]
def isLang (c : UInt8) : Bool := isLet c || isDig c || hasB langs c

theorem control_any (c : UInt8) (w : World) :
    Calls Tryd.prog 62 #[.int .u8 c.toNat] w fun e w' => e = .returned (.bool (isCtl c)) ∧ w = w' := by
  refine calls_gen fun R hR => ?_
  go_enter Tryd.func62, Tryd.ntmps62
  go_wp2
  all_goals
    go_ret
    refine hR _ _ ⟨ret_bool ?_, rfl⟩
    unfold isCtl
    first | (simp; done) | (simp; omega) | (rw [Bool.eq_iff_iff]; simp; omega)
theorem valid1_any (c : UInt8) (w : World) :
    Calls Tryd.prog 61 #[.int .u8 c.toNat] w fun e w' => e = .returned (.bool (!isCtl c)) ∧ w = w' := by
  refine calls_gen fun R hR => ?_
  go_enter Tryd.func61, Tryd.ntmps61
  go_wp2_with fail
  refine (control_any c w).mono ?_
  rintro e w' ⟨rfl, rfl⟩
  go_wp2_with fail
  go_ret
  exact hR _ _ ⟨ret_bool (by simp), rfl⟩
set_option maxHeartbeats 400000 in
/-- header.every, by whatever function that answers p -/
theorem every_any (fid : FuncId) (hent : ∀ (xs : Array Value) (w : World), (callFunc fid xs).run Tryd.prog w = .ok (.enter fid xs) w) (p : UInt8 → Bool) (s : ByteArray) (w : World) (hs : s.size ≤ 140737488351232)
    (hp : ∀ (c : UInt8) (w1 : World), Calls Tryd.prog fid #[.int .u8 c.toNat] w1 fun e w2 => e = .returned (.bool (p c)) ∧ w1 = w2) :
    Calls Tryd.prog 60 #[.string s, .func (.func fid) #[] #[]] w fun e w' => e = .returned (.bool ((toL s).all p)) ∧ w = w' := by
  refine calls_gen fun R hR => ?_
  have HENT := Lib.hid hent; have HP := Lib.hid hp
  clear hent hp
  go_enter Tryd.func60, Tryd.ntmps60
  go_wp2_with fail
  go_loop [4, 5, 8] (fun _ _ i => ∃ k : Nat, k ≤ s.size ∧ i = .int .i64 k ∧ Hid (((toL s).take k).all p = true)) (fun _ _ i => s.size - (intOf i).toNat)
  case atStart => exact ⟨0, Nat.zero_le _, rfl, by simp [Hid]⟩
  case round =>
    obtain ⟨k, hk, rfl, hall⟩ := hrel
    by_cases hlt : k < s.size
    · go_wp2_with (with_reducible (first | refine stop_callv ?_))
      refine ⟨?_⟩
      have hc := HP.out s[k] w
      refine wp_callv (fid := fid) (caps := #[]) (args' := #[.int .u8 (s[k].toNat : Int)]) (Post := fun e w2 => e = .returned (.bool (p s[k])) ∧ w = w2) HENT.out ?_ ?_ ?cc ?_
      case cc => exact hc
      · rfl
      · simp [Act.eval]
      rintro e w2 ⟨rfl, rfl⟩
      refine ⟨_, rfl, ?_⟩
      clear hc
      cases ht : p s[k]
      · have HT := Lib.hid ht; clear ht
        go_wp2_with fail
        go_ret
        refine hR _ _ ⟨ret_bool ?_, rfl⟩
        symm
        rw [Bool.eq_false_iff]
        intro h5
        have := all_get s k hlt h5
        rw [HT.out] at this; cases this
      · have HT := Lib.hid ht; clear ht
        go_wp2_with fail
        go_round
        case rel => exact ⟨k + 1, by omega, by go_num, Lib.hid (by rw [take_snoc s k hlt, List.all_append, hall.out]; simp [HT.out])⟩
        case measure => simp [intOf]; omega
    · obtain rfl : k = s.size := by omega
      go_wp2_with fail
      go_ret
      refine hR _ _ ⟨ret_bool ?_, rfl⟩
      have := hall.out
      rw [take_all] at this
      rw [this]

/-- strings.Cut at a byte -/
theorem cut_any (s : ByteArray) (c : UInt8) (m : Int) (w : World) (hs : s.size ≤ 1000000) (hm : w.cell? ⟨0, 0, none⟩ = some (.int .i64 m)) :
    Calls Tryd.prog 38 #[.string s, .string ⟨#[c]⟩] w fun e w' => ∃ b, e = .returned (.tuple #[.string (ofL (cutAt c (toL s)).1), .string (ofL (cutAt c (toL s)).2), .bool b]) ∧ ∃ n, w' = w.drewN n := by
  refine (Tryd.strings_Cut s ⟨#[c]⟩ m w (by omega) hm).mono ?_
  rintro e w' ⟨rfl, hw⟩
  obtain ⟨h1, h2⟩ := lib_cut c (toL s)
  refine ⟨(Lib.cut (toL s) [c]).2.2, ?_, hw⟩
  rw [← h1, ← h2]; rfl

end Go.Proofs.YtilpaopkhghicaaDoor.Asc

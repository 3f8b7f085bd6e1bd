/-
  A law for a region that draws its order: each operation is looked at by itself, in whatever world the others have left; what each slot then holds is said by a predicate that lasts.
  No condition; nothing here speaks of the program.
-/
import Derived.Test.YtlfcbhagbdonhaaBase
import Derived.Deep.Cut
namespace Go.Proofs.Ytlfcbhagbdonhaa.Pb
open Go Go.RowKit

def dstOf (ops : Array Oper) (i : Nat) : Option Tmp := (ops[i]?).bind (·.dst)
def fillTo (ops : Array Oper) (listed : Array Bool) (vals : Nat → Value) (a : Act) : Nat → Act
  | 0 => a
  | n + 1 => if listed.getD n false = true then (fillTo ops listed vals a n).put (dstOf ops n) (vals n) else fillTo ops listed vals a n
def fillAll (ops : Array Oper) (vals : Nat → Value) (a : Act) : Nat → Act
  | 0 => a
  | n + 1 => (fillAll ops vals a n).put (dstOf ops n) (vals n)
def Fresh (ops : Array Oper) : Prop := ∀ i j d, dstOf ops i = some d → dstOf ops j = some d → i = j

theorem put_size (a : Act) (d : Option Tmp) (v : Value) : (a.put d v).tmps.size = a.tmps.size := by
  cases d <;> simp [Act.put]
theorem fillTo_size (ops : Array Oper) (L : Array Bool) (vals : Nat → Value) (a : Act) : ∀ n, (fillTo ops L vals a n).tmps.size = a.tmps.size := by
  intro n
  induction n with
  | zero => rfl
  | succ n ih => unfold fillTo; split; rw [put_size, ih]; exact ih
theorem fillTo_other (ops : Array Oper) (L : Array Bool) (vals : Nat → Value) (a : Act) (x : Operand) (hx : ∀ j d, L.getD j false = true → dstOf ops j = some d → x ≠ .tmp d) : ∀ n, (fillTo ops L vals a n).eval x = a.eval x := by
  intro n
  induction n with
  | zero => rfl
  | succ n ih =>
    unfold fillTo; split
    · rename_i hl; rw [Act.eval_put fun d hd => hx n d hl hd, ih]
    · exact ih
theorem eval_put_self (a : Act) (d : Tmp) (v : Value) (h : d < a.tmps.size) : (a.put (some d) v).eval (.tmp d) = v := by
  simp [Act.eval, Act.put, h]
theorem fillTo_at (ops : Array Oper) (hf : Fresh ops) (L : Array Bool) (vals : Nat → Value) (a : Act) (j : Nat) (d : Tmp) (hd : dstOf ops j = some d) (hs : d < a.tmps.size) (hj : L.getD j false = true) : ∀ n, j < n → (fillTo ops L vals a n).eval (.tmp d) = vals j := by
  intro n
  induction n with
  | zero => intro h; omega
  | succ n ih =>
    intro h
    unfold fillTo
    by_cases e : j = n
    · subst e
      rw [if_pos hj, hd, eval_put_self _ _ _ (by rw [fillTo_size]; exact hs)]
    · split
      · rw [Act.eval_put fun d' hd' he => by cases he; exact e (hf j n d hd hd'), ih (by omega)]
      · exact ih (by omega)
theorem fillTo_congr (ops : Array Oper) (L L' : Array Bool) (vals vals' : Nat → Value) (a : Act) : ∀ n, (∀ j, j < n → L.getD j false = L'.getD j false) → (∀ j, j < n → L.getD j false = true → vals j = vals' j) → fillTo ops L vals a n = fillTo ops L' vals' a n := by
  intro n
  induction n with
  | zero => intros; rfl
  | succ n ih =>
    intro hL hv
    unfold fillTo
    rw [ih (fun j hj => hL j (by omega)) (fun j hj => hv j (by omega)), ← hL n (by omega)]
    split
    · rename_i h; rw [hv n (by omega) h]
    · rfl
theorem fillTo_set (ops : Array Oper) (hf : Fresh ops) (L : Array Bool) (vals : Nat → Value) (a : Act) (i : Nat) (v : Value) (hi : i < L.size) (hL : L.getD i false = false) :
    ∀ n, fillTo ops (L.setIfInBounds i true) (fun j => if j = i then v else vals j) a n = if i < n then (fillTo ops L vals a n).put (dstOf ops i) v else fillTo ops L vals a n := by
  have hget : ∀ j, j ≠ i → (L.setIfInBounds i true).getD j false = L.getD j false := fun j hj => by
    simp [Array.getElem?_setIfInBounds_ne (Ne.symm hj)]
  have hself : (L.setIfInBounds i true).getD i false = true := by simp [hi]
  intro n
  induction n with
  | zero => rw [if_neg (by omega)]; rfl
  | succ n ih =>
    show (if (L.setIfInBounds i true).getD n false = true then (fillTo ops (L.setIfInBounds i true) _ a n).put (dstOf ops n) (if n = i then v else vals n) else fillTo ops (L.setIfInBounds i true) _ a n) = if i < n + 1 then (if L.getD n false = true then (fillTo ops L vals a n).put (dstOf ops n) (vals n) else fillTo ops L vals a n).put (dstOf ops i) v else (if L.getD n false = true then (fillTo ops L vals a n).put (dstOf ops n) (vals n) else fillTo ops L vals a n)
    rw [ih]
    by_cases e : n = i
    · subst e
      rw [if_pos hself, if_neg (Nat.lt_irrefl n), if_pos rfl, if_pos (Nat.lt_succ_self n), hL, if_neg Bool.false_ne_true]
    · rw [hget n e, if_neg e]
      have hne : i ≠ n := Ne.symm e
      by_cases h : i < n
      · rw [if_pos h, if_pos (show i < n + 1 by omega)]
        by_cases hl : L.getD n false = true
        · rw [if_pos hl, if_pos hl]
          exact Act.put_comm _ _ _ fun d h1 h2 => e (hf n i d h2 h1)
        · rw [if_neg hl, if_neg hl]
      · rw [if_neg h, if_neg (show ¬ i < n + 1 by omega)]
theorem fillTo_all (ops : Array Oper) (L : Array Bool) (vals : Nat → Value) (a : Act) : ∀ n, (∀ j, j < n → L.getD j false = true) → fillTo ops L vals a n = fillAll ops vals a n := by
  intro n
  induction n with
  | zero => intro _; rfl
  | succ n ih => intro h; unfold fillTo fillAll; rw [if_pos (h n (by omega)), ih fun j hj => h j (by omega)]

theorem wrap_in (n : Int) (h : -9223372036854775808 ≤ n ∧ n ≤ 9223372036854775807) : wrap64 n = n := by unfold wrap64; omega
theorem kwrap_in (n : Int) (h : -9223372036854775808 ≤ n ∧ n ≤ 9223372036854775807) : IntKind.wrap .i64 n = n := by rw [IntKind.wrap_i64]; omega
/-- what an operation gives: a value, and a world -/
def Gives (P : Program) (ρ : Operand → Value) (o : Oper) (w : World) (Post : Value → World → Prop) : Prop :=
  (∃ v w', (execOp ρ o).run P w = .ok (.value v) w' ∧ Post v w') ∨ (∃ w', (execOp ρ o).run P w = .ok .skip w' ∧ Post undef w') ∨
  (∃ f args w1, (execOp ρ o).run P w = .ok (.enter f args) w1 ∧ Calls P f args w1 (fun e w' => ∃ v, e = .returned v ∧ Post v w'))
theorem Gives.wp {P : Program} {a : Act} {o : Oper} {w : World} {Post : Value → World → Prop} {K : Act → World → Prop} {Q : Exit → Act → World → Prop} (h : Gives P a.eval o w Post) (hK : ∀ v w', Post v w' → K (a.put o.dst v) w') : Oper.wp P o a w K Q := by
  unfold Oper.wp
  rcases h with ⟨v, w', hr, hp⟩ | ⟨w', hr, hp⟩ | ⟨f, args, w1, hr, hc⟩
  · rw [hr]; exact hK _ _ hp
  · rw [hr]; exact hK _ _ hp
  · rw [hr, Oper.upon_enter]
    refine hc.mono fun e w' hh => ?_
    obtain ⟨v, rfl, hp⟩ := hh
    exact hK _ _ hp

def depB (ops : Array Oper) (D : List (List (Nat × Tmp))) : Bool :=
  (D.length == ops.size) && (ops.toList.zip D).all fun p => p.2.all fun q => decide (dstOf ops q.1 = some q.2) && p.1.after.toList.any fun e => e.on == q.1 && Region.binds .any e
def guardTab (ops : Array Oper) : List (Option (Tmp × Bool)) := ops.toList.map fun o => match o.guard with | none => none | some (j, b) => (dstOf ops j).map fun d => (d, b)
def fineB (ops : Array Oper) (m : Nat) : Bool :=
  (ops.toList.zipIdx.all fun p => p.1.after.toList.all (fun e => !Region.binds .any e || decide (e.on < p.2)) && (match p.1.guard with | none => true | some (j, _) => (dstOf ops j).isSome)) &&
  (let ds := ops.toList.filterMap (·.dst); decide ds.Nodup && ds.all fun d => decide (d < m))

/-- operation i comes behind operation j, through others -/
def reachB (ops : Array Oper) : Nat → Nat → Nat → Bool
  | 0, _, _ => false
  | f + 1, i, j => match ops[i]? with
    | none => false
    | some o => o.after.toList.any fun e => Region.binds .any e && (e.on == j || reachB ops f e.on j)
theorem reachB_listed {ops : Array Oper} {L : Array Bool} (hcl : ∀ i, L.getD i false = true → ∀ o, ops[i]? = some o → ∀ e ∈ o.after, Region.binds .any e = true → L.getD e.on false = true) (f : Nat) : ∀ i j, (∀ o, ops[i]? = some o → ∀ e ∈ o.after, Region.binds .any e = true → L.getD e.on false = true) → reachB ops f i j = true → L.getD j false = true := by
  induction f with
  | zero => intro i j _ h; cases h
  | succ f ih =>
    intro i j hp h
    unfold reachB at h
    cases ho : ops[i]? with
    | none => rw [ho] at h; cases h
    | some o =>
      rw [ho] at h
      obtain ⟨e, he, h2⟩ := List.any_eq_true.1 h
      rw [Bool.and_eq_true, Bool.or_eq_true] at h2
      have hl := hp o ho e (by simpa using he) h2.1
      rcases h2.2 with h3 | h3
      · rw [← show e.on = j by simpa using h3]; exact hl
      · exact ih e.on j (hcl e.on hl) h3
/-- from operation n0 on each comes behind all before it -/
def lateB (ops : Array Oper) (n0 : Nat) : Bool :=
  decide (n0 ≤ ops.size) && ops.toList.zipIdx.all fun p => decide (p.2 < n0) || ((List.range n0).all (fun i => (p.1.after.toList.any fun e => e.on == i && Region.binds .any e) || reachB ops 12 p.2 i) && (decide (p.2 = n0) || p.1.after.toList.any fun e => e.on + 1 == p.2 && Region.binds .any e))

def DepsOk (G : Nat → Value → World → Prop) (ρ : Operand → Value) (w : World) : List (Nat × Tmp) → Prop
  | [] => True
  | p :: ps => G p.1 (ρ (.tmp p.2)) w ∧ DepsOk G ρ w ps
/-- one operation's part -/
def Part (P : Program) (T : World → World → Prop) (G : Nat → Value → World → Prop) (i : Nat) (o : Oper) (ρ : Operand → Value) (w : World) : Option (Tmp × Bool) → Prop
  | none => Gives P ρ o w (fun v w' => T w w' ∧ G i v w')
  | some (d, b) => (ρ (.tmp d) = .bool b ∧ Gives P ρ o w (fun v w' => T w w' ∧ G i v w')) ∨ (ρ (.tmp d) ≠ .bool b ∧ G i undef w)
def Parts (P : Program) (T : World → World → Prop) (G : Nat → Value → World → Prop) (dsts : List Tmp) (a0 : Act) (w0 : World) : Nat → List Oper → List (List (Nat × Tmp)) → List (Option (Tmp × Bool)) → Prop
  | i, o :: os, D :: Ds, g :: gs => (∀ (ρ : Operand → Value) (w : World), T w0 w → (∀ x, (∀ d ∈ dsts, x ≠ .tmp d) → ρ x = a0.eval x) → DepsOk G ρ w D → Part P T G i o ρ w g) ∧ Parts P T G dsts a0 w0 (i + 1) os Ds gs
  | _, _, _, _ => True
def Rest (G : Nat → Value → World → Prop) (w : World) (K : Act → Prop) : Nat → List (Option Tmp) → Act → Prop
  | _, [], a => K a
  | i, d :: ds, a => ∀ v, G i v w → Rest G w K (i + 1) ds (a.put d v)
/-- what the slots hold, one by one; and that it lasts -/
def nth : List (Value → World → Prop) → Nat → Value → World → Prop
  | [], _ => fun _ _ => True
  | g :: _, 0 => g
  | _ :: gs, i + 1 => nth gs i
def Lasts (T : World → World → Prop) : List (Value → World → Prop) → Prop
  | [] => True
  | g :: gs => (∀ v w w', T w w' → g v w → g v w') ∧ Lasts T gs
theorem Lasts.nth {T : World → World → Prop} : ∀ {Gs : List (Value → World → Prop)}, Lasts T Gs → ∀ {i v w w'}, T w w' → nth Gs i v w → nth Gs i v w' := by
  intro Gs
  induction Gs with
  | nil => intro _ i v w w' _ _; trivial
  | cons g gs ih =>
    intro h i v w w' hT hg
    cases i with
    | zero => exact h.1 v w w' hT hg
    | succ i => exact ih h.2 hT hg

theorem Parts.at {P : Program} {T : World → World → Prop} {G : Nat → Value → World → Prop} {dsts : List Tmp} {a0 : Act} {w0 : World} : ∀ {os : List Oper} {Ds : List (List (Nat × Tmp))} {gs : List (Option (Tmp × Bool))} {k : Nat}, Parts P T G dsts a0 w0 k os Ds gs →
    ∀ i o D g, os[i]? = some o → Ds[i]? = some D → gs[i]? = some g → ∀ (ρ : Operand → Value) (w : World), T w0 w → (∀ x, (∀ d ∈ dsts, x ≠ .tmp d) → ρ x = a0.eval x) → DepsOk G ρ w D → Part P T G (k + i) o ρ w g := by
  intro os
  induction os with
  | nil => intro Ds gs k _ i o D g h; simp at h
  | cons o os ih =>
    intro Ds gs k h i o' D g ho hD hg
    cases Ds with
    | nil => simp at hD
    | cons D0 Ds =>
      cases gs with
      | nil => simp at hg
      | cons g0 gs =>
        obtain ⟨h1, h2⟩ := h
        cases i with
        | zero =>
          simp at ho hD hg
          subst ho; subst hD; subst hg
          exact h1
        | succ i =>
          have := ih h2 i o' D g (by simpa using ho) (by simpa using hD) (by simpa using hg)
          rw [show k + (i + 1) = k + 1 + i by omega]
          exact this
theorem DepsOk.of {G : Nat → Value → World → Prop} {ρ : Operand → Value} {w : World} : ∀ {l : List (Nat × Tmp)}, (∀ p ∈ l, G p.1 (ρ (.tmp p.2)) w) → DepsOk G ρ w l := by
  intro l
  induction l with
  | nil => intro _; trivial
  | cons p l ih => intro h; exact ⟨h p (by simp), ih fun q hq => h q (by simp [hq])⟩
theorem Rest.run {G : Nat → Value → World → Prop} {w : World} {K : Act → Prop} {ops : Array Oper} {vals : Nat → Value} {a0 : Act} :
    ∀ (ds : List (Option Tmp)) (k : Nat), (∀ i, i < ds.length → ds[i]? = some (dstOf ops (k + i))) → (∀ i, i < ds.length → G (k + i) (vals (k + i)) w) → Rest G w K k ds (fillAll ops vals a0 k) → K (fillAll ops vals a0 (k + ds.length)) := by
  intro ds
  induction ds with
  | nil => intro k _ _ h; exact h
  | cons d ds ih =>
    intro k hd hG h
    have h0 := hd 0 (by simp)
    simp at h0
    have h1 := h (vals k) (hG 0 (by simp))
    rw [h0] at h1
    have := ih (k + 1) (fun i hi => by have := hd (i + 1) (by simpa using hi); rw [show k + 1 + i = k + (i + 1) by omega]; simpa using this) (fun i hi => by rw [show k + 1 + i = k + (i + 1) by omega]; exact hG (i + 1) (by simpa using hi)) h1
    rw [show k + (d :: ds).length = k + 1 + ds.length by simp; omega]
    exact this

theorem fresh_of {ops : Array Oper} (h : (ops.toList.filterMap (·.dst)).Nodup) : Fresh ops := by
  intro i j d hi hj
  unfold dstOf at hi hj
  have key : ∀ (l : List Oper) (i j : Nat) (d : Tmp), (l.filterMap (·.dst)).Nodup → (l[i]?).bind (·.dst) = some d → (l[j]?).bind (·.dst) = some d → i = j := by
    intro l
    induction l with
    | nil => intro i j d _ h; simp at h
    | cons o l ih =>
      intro i j d hn h1 h2
      have mem : ∀ (k : Nat), (l[k]?).bind (·.dst) = some d → d ∈ l.filterMap (·.dst) := fun k hk => by
        obtain ⟨o', ho', hd'⟩ := Option.bind_eq_some_iff.1 hk
        exact List.mem_filterMap.2 ⟨o', List.mem_of_getElem? ho', hd'⟩
      have hn' : (l.filterMap (·.dst)).Nodup := by
        rw [List.filterMap_cons] at hn
        split at hn
        · exact hn
        · exact (List.nodup_cons.1 hn).2
      cases i with
      | zero =>
        cases j with
        | zero => rfl
        | succ j =>
          simp at h1 h2
          rw [List.filterMap_cons, h1] at hn
          exact absurd (mem j (by simpa using h2)) (List.nodup_cons.1 hn).1
      | succ i =>
        cases j with
        | zero =>
          simp at h1 h2
          rw [List.filterMap_cons, h2] at hn
          exact absurd (mem i (by simpa using h1)) (List.nodup_cons.1 hn).1
        | succ j => rw [ih i j d hn' (by simpa using h1) (by simpa using h2)]
  exact key ops.toList i j d h (by simpa using hi) (by simpa using hj)

theorem yielded_eq {ops : Array Oper} {a : Act} {j : Nat} {d : Tmp} (hd : dstOf ops j = some d) (hs : d < a.tmps.size) : yielded ops a.tmps j = match a.eval (.tmp d) with | .bool b => some b | _ => none := by
  unfold yielded
  unfold dstOf at hd
  rw [hd]
  have e : a.tmps[d]? = some (a.eval (.tmp d)) := by
    rw [Array.getElem?_eq_getElem hs]
    simp [Act.eval, hs]
  simp only [Option.bind_some, e]
  cases a.eval (.tmp d) <;> rfl
theorem wanted_of_guard {ops : Array Oper} {a : Act} {o : Oper} {j : Nat} {b : Bool} {d : Tmp} (hg : o.guard = some (j, b)) (hd : dstOf ops j = some d) (hs : d < a.tmps.size) : (Region.wanted o (yielded ops a.tmps) = true) ↔ a.eval (.tmp d) = .bool b := by
  unfold Region.wanted
  rw [hg]
  simp only [yielded_eq hd hs]
  cases a.eval (.tmp d) <;> simp

section
variable {P : Program} {ops : Array Oper} {Q : Exit → Act → World → Prop}
theorem late_run {n0 : Nat} (hfine : ∀ i o, ops[i]? = some o → ∀ e ∈ o.after, Region.binds .any e = true → e.on < i) (_hn0 : n0 ≤ ops.size)
    (hlate : ∀ i o, ops[i]? = some o → n0 < i → ∃ e ∈ o.after, e.on + 1 = i ∧ Region.binds .any e = true) :
    ∀ (fuel m : Nat) (L : Array Bool) (a : Act) (w : World), L.size = ops.size → n0 ≤ m → m + fuel = ops.size → (∀ j, j < ops.size → (L.getD j false = true ↔ j < m)) →
      wpOps P ops Q (List.range' m fuel) a w → wpAny P .any ops Q fuel L a w := by
  intro fuel
  induction fuel with
  | zero =>
    intro m L a w hLs hm hn hL h
    refine ⟨?_, h⟩
    unfold Region.ready
    rw [List.filter_eq_nil_iff]
    intro i hi
    have hi' : i < ops.size := by simpa using hi
    have := (hL i hi').2 (by omega)
    have e : L.getD i true = true := by
      simp [Array.getElem?_eq_getElem (show i < L.size by omega)] at this ⊢; exact this
    simp only [e, Bool.not_true, Bool.false_and]
    decide
  | succ fuel ih =>
    intro m L a w hLs hm hn hL h
    have hmn : m < ops.size := by omega
    have hom : ops[m]? = some ops[m] := Array.getElem?_eq_getElem hmn
    have hLm : L.getD m true = false := by
      have : ¬ L.getD m false = true := fun e => by have := (hL m hmn).1 e; omega
      simp [Array.getElem?_eq_getElem (show m < L.size by omega)] at this ⊢; exact this
    have hmem : m ∈ Region.ready .any ops L := by
      unfold Region.ready
      rw [List.mem_filter]
      refine ⟨by simpa using hmn, ?_⟩
      rw [hLm, hom]
      simp only [Bool.not_false, Bool.true_and, Option.map_some, Option.getD_some]
      rw [Array.all_eq_true']
      intro e' he'
      cases hb : Region.binds .any e' with
      | false => rfl
      | true =>
        have h1 := hfine m _ hom e' he' hb
        rw [(hL e'.on (by omega)).2 h1]; rfl
    refine ⟨fun hnil => by rw [hnil] at hmem; simp at hmem, fun i hi => ?_⟩
    have him : i = m := by
      unfold Region.ready at hi
      rw [List.mem_filter] at hi
      obtain ⟨h1, h2⟩ := hi
      have hin : i < ops.size := by simpa using h1
      have ho : ops[i]? = some ops[i] := Array.getElem?_eq_getElem hin
      rw [ho] at h2
      simp only [Option.map_some, Option.getD_some, Bool.and_eq_true] at h2
      obtain ⟨h2, h3⟩ := h2
      have hLi : ¬ L.getD i false = true := by
        simp [Array.getElem?_eq_getElem (show i < L.size by omega)] at h2 ⊢; simpa using h2
      have hge : ¬ i < m := fun hlt => hLi ((hL i hin).2 hlt)
      by_cases hgt : m < i
      · exfalso
        obtain ⟨e, he, he1, hb⟩ := hlate i _ ho (by omega)
        have := (Array.all_eq_true'.1 h3) e he
        rw [hb] at this
        have h4 : L.getD e.on false = true := by simpa using this
        have := (hL e.on (by omega)).1 h4
        omega
      · omega
    subst him
    rw [List.range'_succ, wpOps_cons] at h
    refine wpOp_mono (fun a w h => ?_) h
    refine ih (i + 1) _ a w (by simpa using hLs) (by omega) (by omega) (fun j hj => ?_) h
    by_cases e : j = i
    · subst e; simp [show j < L.size by omega]
    · rw [show (L.setIfInBounds i true).getD j false = L.getD j false by simp [Array.getElem?_setIfInBounds_ne (Ne.symm e)], hL j hj]
      omega

theorem region_every (T : World → World → Prop) (T0 : ∀ w, T w w) (T2 : ∀ {u v w}, T u v → T v w → T u w) (G : Nat → Value → World → Prop) (hG : ∀ {i v w w'}, T w w' → G i v w → G i v w')
    {a0 : Act} {w0 : World} {D : List (List (Nat × Tmp))} {gs : List (Option (Tmp × Bool))} {ds : List (Option Tmp)} (n0 : Nat) (hfine : fineB ops a0.tmps.size = true) (hD : depB ops D = true) (hgs : guardTab ops = gs) (hds : (ops.toList.take n0).map (·.dst) = ds) (hlate : lateB ops n0 = true)
    (hp : Parts P T G (ds.filterMap id) a0 w0 0 (ops.toList.take n0) D gs) (hq : ∀ w, T w0 w → Rest G w (fun a => wpList P ops Q (ops.toList.drop n0) a w) 0 ds a0) :
    wpAny P .any ops Q ops.size (Array.replicate ops.size false) a0 w0 := by
  subst hgs; subst hds
  unfold depB at hD
  rw [Bool.and_eq_true] at hD
  obtain ⟨hD1, hD2⟩ := hD
  have hDl : D.length = ops.size := by simpa using hD1
  unfold fineB at hfine
  simp only [Bool.and_eq_true, List.all_eq_true, decide_eq_true_eq] at hfine
  obtain ⟨hf1, hf2, hf3⟩ := hfine
  unfold lateB at hlate
  rw [Bool.and_eq_true, decide_eq_true_eq, List.all_eq_true] at hlate
  obtain ⟨hn0, hlate⟩ := hlate
  have hfr : Fresh ops := fresh_of hf2
  have hdst : ∀ j d, dstOf ops j = some d → d ∈ ops.toList.filterMap (·.dst) := fun j d h => by
    unfold dstOf at h
    obtain ⟨o', ho', hd'⟩ := Option.bind_eq_some_iff.1 h
    exact List.mem_filterMap.2 ⟨o', by simpa using Array.mem_of_getElem? ho', hd'⟩
  have hsz : ∀ j d, dstOf ops j = some d → d < a0.tmps.size := fun j d h => hf3 d (hdst j d h)
  have hzip : ∀ i o, ops[i]? = some o → (o, i) ∈ ops.toList.zipIdx := fun i o h => by
    rw [List.mk_mem_zipIdx_iff_getElem?]; simpa using h
  have hback : ∀ i o, ops[i]? = some o → ∀ e ∈ o.after, Region.binds .any e = true → e.on < i := fun i o ho e he hb => by
    have h1 := (hf1 _ (hzip i o ho)).1 e (by simpa using he)
    rw [hb] at h1; simpa using h1
  have hafter : ∀ i o, ops[i]? = some o → n0 ≤ i → ∀ j, j < n0 → (∃ e ∈ o.after, e.on = j ∧ Region.binds .any e = true) ∨ reachB ops 12 i j = true := fun i o ho hi j hj => by
    have h1 := hlate _ (hzip i o ho)
    simp only [show ¬ i < n0 by omega, decide_false, Bool.false_or, Bool.and_eq_true] at h1
    have h2 := List.all_eq_true.1 h1.1 j (by simpa using hj)
    rw [Bool.or_eq_true] at h2
    rcases h2 with h2 | h2
    · obtain ⟨e, he, h4⟩ := List.any_eq_true.1 h2
      rw [Bool.and_eq_true] at h4
      exact .inl ⟨e, by simpa using he, by simpa using h4.1, h4.2⟩
    · exact .inr h2
  have hchain : ∀ i o, ops[i]? = some o → n0 < i → ∃ e ∈ o.after, e.on + 1 = i ∧ Region.binds .any e = true := fun i o ho hi => by
    have h1 := hlate _ (hzip i o ho)
    simp only [show ¬ i < n0 by omega, show ¬ i = n0 by omega, decide_false, Bool.false_or, Bool.and_eq_true] at h1
    obtain ⟨e, he, h4⟩ := List.any_eq_true.1 h1.2
    rw [Bool.and_eq_true] at h4
    exact ⟨e, by simpa using he, by simpa using h4.1, h4.2⟩
  have main : ∀ (fuel : Nat) (L : Array Bool) (a : Act) (w : World), L.size = ops.size → (L.toList.count false) = fuel → T w0 w → (∀ j, j < ops.size → L.getD j false = true → j < n0) → (∀ i, L.getD i false = true → ∀ o, ops[i]? = some o → ∀ e ∈ o.after, Region.binds .any e = true → L.getD e.on false = true) → (∃ vals, a = fillTo ops L vals a0 n0 ∧ ∀ j, j < n0 → L.getD j false = true → G j (vals j) w) → wpAny P .any ops Q fuel L a w := by
    intro fuel
    induction fuel with
    | zero =>
      intro L a w hLs hc hT hno hcl ⟨vals, ha, hvals⟩
      have hall : ∀ j, j < ops.size → L.getD j false = true := fun j hj => by
        have hj' : j < L.toList.length := by simpa [hLs] using hj
        cases hb : L.toList[j] with
        | true => simp [Array.getElem?_eq_getElem (show j < L.size by omega)]; simpa using hb
        | false => exact absurd hc (by have := List.count_pos_iff.2 (hb ▸ List.getElem_mem hj' : false ∈ L.toList); omega)
      have hnn : n0 = ops.size := by
        by_cases h : n0 < ops.size
        · have := hno n0 h (hall n0 h); omega
        · omega
      have hr := Rest.run (G := G) (w := w) (K := fun a => wpList P ops Q (ops.toList.drop n0) a w) (ops := ops) (vals := vals) (a0 := a0) ((ops.toList.take n0).map (·.dst)) 0 (fun i hi => by
          have hi' : i < n0 := by simp at hi; omega
          have hi2 : i < ops.size := by omega
          rw [List.getElem?_map, List.getElem?_take, if_pos hi', Nat.zero_add]
          simp [dstOf, hi2]) (fun i hi => by
          rw [Nat.zero_add]
          have hi' : i < n0 := by simp at hi; omega
          exact hvals i hi' (hall i (by omega))) (hq w hT)
      have hlen : ((ops.toList.take n0).map (·.dst)).length = n0 := by simp; omega
      rw [Nat.zero_add, hlen, ← fillTo_all ops L vals a0 n0 (fun j hj => hall j (by omega)), ← ha, List.drop_of_length_le (by simp; omega)] at hr
      exact late_run (n0 := n0) hback hn0 hchain 0 ops.size L a w hLs (by omega) (by omega) (fun j hj => ⟨fun _ => hj, fun _ => hall j hj⟩) hr
    | succ fuel ih =>
      intro L a w hLs hc hT hno hcl ⟨vals, ha, hvals⟩
      by_cases hall : ∀ j, j < n0 → L.getD j false = true
      · -- the rest runs in its order
        have hr := Rest.run (G := G) (w := w) (K := fun a => wpList P ops Q (ops.toList.drop n0) a w) (ops := ops) (vals := vals) (a0 := a0) ((ops.toList.take n0).map (·.dst)) 0 (fun i hi => by
            have hi' : i < n0 := by simp at hi; omega
            have hi2 : i < ops.size := by omega
            rw [List.getElem?_map, List.getElem?_take, if_pos hi', Nat.zero_add]
            simp [dstOf, hi2]) (fun i hi => by
            rw [Nat.zero_add]
            have hi' : i < n0 := by simp at hi; omega
            exact hvals i hi' (hall i hi')) (hq w hT)
        have hlen : ((ops.toList.take n0).map (·.dst)).length = n0 := by simp; omega
        rw [Nat.zero_add, hlen, ← fillTo_all ops L vals a0 n0 hall, ← ha] at hr
        have hcount : n0 + (fuel + 1) = ops.size := by
          have hL1 : L.toList = List.replicate n0 true ++ List.replicate (ops.size - n0) false := by
            apply List.ext_getElem?
            intro i
            by_cases hi : i < ops.size
            · have hiL : i < L.size := by omega
              by_cases hi0 : i < n0
              · have := hall i hi0
                simp [Array.getElem?_eq_getElem hiL] at this
                rw [List.getElem?_append_left (by simpa using hi0)]
                simp [hi0, Array.getElem?_eq_getElem hiL, this]
              · have hnl : ¬ L.getD i false = true := fun h => hi0 (hno i hi h)
                simp [Array.getElem?_eq_getElem hiL] at hnl
                rw [List.getElem?_append_right (by simpa using (by omega : n0 ≤ i)), List.getElem?_replicate, if_pos (by simp; omega)]
                simp [Array.getElem?_eq_getElem hiL, hnl]
            · rw [List.getElem?_eq_none (by simp; omega), List.getElem?_eq_none (by simp; omega)]
          rw [hL1, List.count_append, List.count_replicate_self] at hc
          have h0 : List.count false (List.replicate n0 true) = 0 := by
            rw [List.count_eq_zero]; intro h; have := List.eq_of_mem_replicate h; cases this
          omega
        refine late_run (n0 := n0) hback hn0 hchain (fuel + 1) n0 L a w hLs (Nat.le_refl _) hcount (fun j hj => ⟨hno j hj, hall j⟩) ?_
        have hw := wpOps_eq_wpList (P := P) (ops := ops) (Q := Q) (ops.toList.drop n0) n0 (fun j => by rw [List.getElem?_drop]; simp)
        rw [show (ops.toList.drop n0).length = fuel + 1 by simp; omega] at hw
        rw [hw]; exact hr
      · have hleast : ∃ i, i < n0 ∧ L.getD i false = false ∧ ∀ j, j < i → L.getD j false = true := by
          have hex : ∃ i, i < n0 ∧ L.getD i false = false := by
            obtain ⟨j, hj⟩ := Classical.not_forall.1 hall
            obtain ⟨hj1, hj2⟩ := Classical.not_imp.1 hj
            exact ⟨j, hj1, by simpa using hj2⟩
          obtain ⟨i, hi, he⟩ := hex
          induction i using Nat.strongRecOn with
          | ind i ih2 =>
            by_cases h : ∀ j, j < i → L.getD j false = true
            · exact ⟨i, hi, he, h⟩
            · obtain ⟨j, hj⟩ := Classical.not_forall.1 h
              obtain ⟨hj1, hj2⟩ := Classical.not_imp.1 hj
              exact ih2 j hj1 (by omega) (by simpa using hj2)
        refine ⟨fun hnil => ?_, fun i hi => ?_⟩
        · exfalso
          obtain ⟨i, hi, he, hmin⟩ := hleast
          have hin : i < ops.size := by omega
          have ho : ops[i]? = some ops[i] := Array.getElem?_eq_getElem hin
          have hmem : i ∈ Region.ready .any ops L := by
            unfold Region.ready
            rw [List.mem_filter]
            refine ⟨by simpa using hin, ?_⟩
            have e : L.getD i true = false := by
              simp [Array.getElem?_eq_getElem (show i < L.size by omega)] at he ⊢; exact he
            rw [e, ho]
            simp only [Bool.not_false, Bool.true_and, Option.map_some, Option.getD_some]
            rw [Array.all_eq_true']
            intro e' he'
            cases hb : Region.binds .any e' with
            | false => rfl
            | true => rw [hmin _ (hback i _ ho e' he' hb)]; rfl
          rw [hnil] at hmem
          simp at hmem
        · unfold Region.ready at hi
          rw [List.mem_filter] at hi
          obtain ⟨h1, h2⟩ := hi
          have hin : i < ops.size := by simpa using h1
          have ho : ops[i]? = some ops[i] := Array.getElem?_eq_getElem hin
          rw [ho] at h2
          simp only [Option.map_some, Option.getD_some, Bool.and_eq_true] at h2
          obtain ⟨h2, h3⟩ := h2
          have hLi : L.getD i false = false := by
            simp [Array.getElem?_eq_getElem (show i < L.size by omega)] at h2 ⊢; exact h2
          have hi0 : i < n0 := by
            by_cases h : i < n0
            · exact h
            · exfalso
              refine hall fun j hj => ?_
              rcases hafter i _ ho (by omega) j hj with ⟨e, he, he1, hb⟩ | hr
              · have := (Array.all_eq_true'.1 h3) e he
                rw [hb, he1] at this
                simpa using this
              · refine reachB_listed hcl 12 i j (fun o' ho' e he hb => ?_) hr
                rw [ho] at ho'
                cases ho'
                have := (Array.all_eq_true'.1 h3) e he
                rw [hb] at this
                simpa using this
          have hasz : a.tmps.size = a0.tmps.size := by rw [ha, fillTo_size]
          have htk : (ops.toList.take n0)[i]? = some ops[i] := by rw [List.getElem?_take, if_pos hi0]; simp
          have hoth : ∀ x, (∀ d ∈ ((ops.toList.take n0).map (·.dst)).filterMap id, x ≠ .tmp d) → a.eval x = a0.eval x := fun x hx => by
            rw [ha]
            refine fillTo_other ops L vals a0 x (fun j d hj hd => hx d ?_) n0
            have hjs : j < ops.size := by
              unfold dstOf at hd
              cases hoj : ops[j]? with
              | none => rw [hoj] at hd; simp at hd
              | some o => exact (Array.getElem?_eq_some_iff.1 hoj).1
            have hjn := hno j hjs hj
            rw [List.filterMap_map]
            refine List.mem_filterMap.2 ⟨ops[j], ?_, ?_⟩
            · exact List.mem_of_getElem? (i := j) (by rw [List.getElem?_take, if_pos hjn]; simp)
            · unfold dstOf at hd
              rw [Array.getElem?_eq_getElem hjs] at hd
              exact hd
          have hdep : ∀ e ∈ ops[i].after, Region.binds .any e = true → ∀ d, dstOf ops e.on = some d → G e.on (a.eval (.tmp d)) w := fun e he hb d hd => by
            have hon : e.on < n0 := by have := hback i _ ho e he hb; omega
            have hl : L.getD e.on false = true := by
              have := (Array.all_eq_true'.1 h3) e he
              rw [hb] at this
              simpa using this
            rw [ha, fillTo_at ops hfr L vals a0 e.on d hd (hsz _ _ hd) hl n0 hon]
            exact hvals _ hon hl
          have hDi : D[i]? = some (D[i]'(by omega)) := List.getElem?_eq_getElem (by omega)
          have hpart := hp.at i ops[i] _ _ htk hDi (by unfold guardTab; rw [List.getElem?_map]; simp [hin]; rfl) a.eval w hT hoth (DepsOk.of fun p hp => by
            have hz : (ops[i], D[i]'(by omega)) ∈ ops.toList.zip D := by
              refine List.mem_iff_getElem?.2 ⟨i, ?_⟩
              rw [List.getElem?_zip_eq_some]
              exact ⟨by simp, hDi⟩
            have h5 := List.all_eq_true.1 (List.all_eq_true.1 hD2 _ hz) p hp
            rw [Bool.and_eq_true] at h5
            obtain ⟨h6, h7⟩ := h5
            obtain ⟨e, he, h8⟩ := List.any_eq_true.1 h7
            rw [Bool.and_eq_true] at h8
            have h9 : e.on = p.1 := by simpa using h8.1
            have := hdep e (by simpa using he) h8.2 p.2 (by rw [h9]; exact of_decide_eq_true h6)
            rw [h9] at this
            exact this)
          rw [Nat.zero_add] at hpart
          have hnext : ∀ v w', T w w' → G i v w' → wpAny P .any ops Q fuel (L.setIfInBounds i true) (a.put ops[i].dst v) w' := fun v w' hT' hv => by
            refine ih _ _ _ (by simpa using hLs) ?_ (T2 hT hT') (fun j hj hl => ?_) (fun j hl o' ho' e he hb => ?_) ⟨fun j => if j = i then v else vals j, ?_, fun j hj hl => ?_⟩
            · have hiL : i < L.toList.length := by simpa [hLs] using hin
              rw [Array.toList_setIfInBounds, List.count_set (h := hiL)]
              have : L.toList[i] = false := by
                simp [Array.getElem?_eq_getElem (show i < L.size by omega)] at hLi; simpa using hLi
              rw [this]
              simp
              simp at hc
              omega
            · by_cases e : j = i
              · subst e; exact hi0
              · rw [show (L.setIfInBounds i true).getD j false = L.getD j false by simp [Array.getElem?_setIfInBounds_ne (Ne.symm e)]] at hl
                exact hno j hj hl
            · have hl0 : L.getD e.on false = true := by
                by_cases ej : j = i
                · subst ej
                  rw [ho] at ho'
                  cases ho'
                  have := (Array.all_eq_true'.1 h3) e he
                  rw [hb] at this
                  simpa using this
                · rw [show (L.setIfInBounds i true).getD j false = L.getD j false by simp [Array.getElem?_setIfInBounds_ne (Ne.symm ej)]] at hl
                  exact hcl j hl o' ho' e he hb
              by_cases e2 : e.on = i
              · rw [e2] at hl0; rw [hLi] at hl0; cases hl0
              · rw [show (L.setIfInBounds i true).getD e.on false = L.getD e.on false by simp [Array.getElem?_setIfInBounds_ne (Ne.symm e2)]]; exact hl0
            · rw [fillTo_set ops hfr L vals a0 i v (by omega) hLi, if_pos hi0, ← ha]
              unfold dstOf
              rw [ho]; rfl
            · by_cases e : j = i
              · subst e; show G j (if j = j then v else vals j) w'; rw [if_pos rfl]; exact hv
              · show G j (if j = i then v else vals j) w'
                rw [if_neg e]
                refine hG hT' (hvals j hj ?_)
                rw [show (L.setIfInBounds i true).getD j false = L.getD j false by simp [Array.getElem?_setIfInBounds_ne (Ne.symm e)]] at hl
                exact hl
          unfold wpOp
          simp only [ho]
          cases hgd : ops[i].guard with
          | none =>
            rw [hgd] at hpart
            rw [if_pos (by unfold Region.wanted; rw [hgd])]
            exact .inl (Gives.wp hpart fun v w' h => hnext v w' h.1 h.2)
          | some gb =>
            obtain ⟨j, b⟩ := gb
            rw [hgd] at hpart
            have hsome := (hf1 _ (hzip i _ ho)).2
            simp only [hgd] at hsome
            obtain ⟨d, hd⟩ := Option.isSome_iff_exists.1 hsome
            simp only [hd, Option.map_some] at hpart
            rcases hpart with ⟨hb, hpart⟩ | ⟨hb, hpart⟩
            · rw [if_pos ((wanted_of_guard hgd hd (by rw [hasz]; exact hsz _ _ hd)).2 hb)]
              exact .inl (Gives.wp hpart fun v w' h => hnext v w' h.1 h.2)
            · rw [if_neg fun h => hb ((wanted_of_guard hgd hd (by rw [hasz]; exact hsz _ _ hd)).1 h)]
              exact hnext undef w (T0 w) hpart
  refine main ops.size _ a0 w0 (by simp) (by simp) (T0 w0) (fun j hj h => by simp [hj] at h) (fun i h => by by_cases hi : i < ops.size <;> simp [hi] at h) ⟨fun _ => undef, ?_, fun j hj h => ?_⟩
  · have : ∀ n, fillTo ops (Array.replicate ops.size false) (fun _ => undef) a0 n = a0 := by
      intro n
      induction n with
      | zero => rfl
      | succ n ih =>
        unfold fillTo
        rw [if_neg (by simp [Array.getElem?_replicate]; split <;> rfl), ih]
    rw [this]
  · have hj' : j < ops.size := by omega
    simp [hj'] at h
end

/-! ### the plain case: new blocks alone -/
def Ext (u v : World) : Prop := Below u.heap.size u v
theorem Ext.refl (w : World) : Ext w w := Below.refl _ _
theorem Ext.trans {u v w : World} (h : Ext u v) (k : Ext v w) : Ext u w := Below.trans h (Below.mono k h.size)
theorem Ext.undrew {u v : World} (h : Ext u.drew v) : Ext u v := ⟨h.os, h.tape, h.output, h.size, h.block⟩
theorem ext_cell {u v : World} (h : Ext u v) {a : Addr} {x : Value} (hc : u.cell? a = some x) : v.cell? a = some x := (Below.cell h (World.block_lt_of_cell? u a hc)).trans hc
theorem Ext.then {B : Nat} {u v w : World} (h : Below B u v) (k : Ext v w) (hB : B ≤ u.heap.size) : Below B u w := h.trans (Below.mono k (Nat.le_trans hB h.size))
section
variable {P : Program} {ops : Array Oper} {Q : Exit → Act → World → Prop}
theorem region_ext (Gs : List (Value → World → Prop)) (D : List (List (Nat × Tmp))) (gs : List (Option (Tmp × Bool))) (ds : List (Option Tmp)) (n0 : Nat)
    {a0 : Act} {w0 : World} (hfine : fineB ops a0.tmps.size = true) (hD : depB ops D = true) (hgs : guardTab ops = gs) (hds : (ops.toList.take n0).map (·.dst) = ds) (hlate : lateB ops n0 = true) (hG : Lasts Ext Gs)
    (hp : Parts P Ext (nth Gs) (ds.filterMap id) a0 w0.drew 0 (ops.toList.take n0) D gs) (hq : ∀ w, Ext w0 w → Rest (nth Gs) w (fun a => wpList P ops Q (ops.toList.drop n0) a w) 0 ds a0) :
    wpAny P .any ops Q ops.size (Array.replicate ops.size false) a0 w0.drew :=
  region_every Ext Ext.refl Ext.trans (nth Gs) hG.nth n0 hfine hD hgs hds hlate hp fun w h => hq w h.undrew
theorem gives_val {ρ : Operand → Value} {o : Oper} {w : World} {G : Value → World → Prop} {v : Value} (h : (execOp ρ o).run P w = .ok (.value v) w) (hg : G v w) : Gives P ρ o w (fun v w' => Ext w w' ∧ G v w') := .inl ⟨v, w, h, Ext.refl w, hg⟩
theorem gives_new {ρ : Operand → Value} {o : Oper} {w w' : World} {G : Value → World → Prop} {v : Value} (h : (execOp ρ o).run P w = .ok (.value v) w') (hE : Ext w w') (hg : G v w') : Gives P ρ o w (fun v w' => Ext w w' ∧ G v w') := .inl ⟨v, w', h, hE, hg⟩
theorem gives_call {ρ : Operand → Value} {o : Oper} {w : World} {G : Value → World → Prop} {f : FuncId} {args : Array Value} (h : (execOp ρ o).run P w = .ok (.enter f args) w) (hc : Calls P f args w (fun e w' => ∃ v, e = .returned v ∧ Ext w w' ∧ G v w')) : Gives P ρ o w (fun v w' => Ext w w' ∧ G v w') := .inr (.inr ⟨f, args, w, h, hc⟩)
theorem gives_move {ρ : Operand → Value} {w : World} {x : Operand} {E : Value} {d : Option Tmp} {ty : TypeId} {pos : String} {af : Array Edge} {g : Option (Nat × Bool)} {G : Value → World → Prop} (h : ρ x = E) (hG : G E w := by exact rfl) : Gives P ρ ⟨d, .move x, ty, pos, af, g⟩ w (fun v w' => Ext w w' ∧ G v w') :=
  gives_val (v := E) (by simp only [execOp, h]; rfl) hG
theorem gives_assign {ρ : Operand → Value} {w : World} {x : Operand} {E : Value} {d : Option Tmp} {ty : TypeId} {pos : String} {af : Array Edge} {g : Option (Nat × Bool)} {G : Value → World → Prop} (h : ρ x = E) (hG : G E w := by exact rfl) : Gives P ρ ⟨d, .assign x, ty, pos, af, g⟩ w (fun v w' => Ext w w' ∧ G v w') :=
  gives_val (v := E) (by simp only [execOp, h]; rfl) hG
theorem gives_moveP {ρ : Operand → Value} {w : World} {x : Operand} {d : Option Tmp} {ty : TypeId} {pos : String} {af : Array Edge} {g : Option (Nat × Bool)} {G : Value → World → Prop} (h : G (ρ x) w) : Gives P ρ ⟨d, .move x, ty, pos, af, g⟩ w (fun v w' => Ext w w' ∧ G v w') :=
  gives_val (v := ρ x) (by simp only [execOp]; rfl) h
theorem gives_assignP {ρ : Operand → Value} {w : World} {x : Operand} {d : Option Tmp} {ty : TypeId} {pos : String} {af : Array Edge} {g : Option (Nat × Bool)} {G : Value → World → Prop} (h : G (ρ x) w) : Gives P ρ ⟨d, .assign x, ty, pos, af, g⟩ w (fun v w' => Ext w w' ∧ G v w') :=
  gives_val (v := ρ x) (by simp only [execOp]; rfl) h
theorem off_f {v : Value} (h : v = .bool false) : v ≠ .bool true := by rw [h]; simp
theorem off_t {v : Value} (h : v = .bool true) : v ≠ .bool false := by rw [h]; simp
theorem off_u {v : Value} {b : Bool} (h : v = undef) : v ≠ .bool b := by rw [h]; simp [undef]
theorem rest_nil {G : Nat → Value → World → Prop} {w : World} {K : Act → Prop} {i : Nat} {a : Act} (h : K a) : Rest G w K i [] a := h
theorem go_on {P : Program} {c : Code} {Q' : Exit → Act → World → Prop} {K : Act → World → Prop} (h : ∀ a w, Code.wp P c Q' a w → K a w) {a : Act} {w : World} (k : Code.wp P c Q' a w) : K a w := h a w k
theorem to_met {J K : Act → World → Prop} (h : ∀ a w, Met J a w → K a w) {a : Act} {w : World} (k : Met J a w) : K a w := h a w k
/-- by a contract that says what is answered -/
theorem call_below {f : FuncId} {args : Array Value} {w : World} {v0 : Value} (h : Calls P f args w (fun e w' => e = .returned v0 ∧ Below w.heap.size w w')) : Calls P f args w (fun e w' => ∃ v, e = .returned v ∧ Ext w w' ∧ v = v0) :=
  h.mono fun _ _ hh => ⟨v0, hh.1, hh.2, rfl⟩
theorem call_same {f : FuncId} {args : Array Value} {w : World} {v0 : Value} (h : Calls P f args w (fun e w' => e = .returned v0 ∧ w = w')) : Calls P f args w (fun e w' => ∃ v, e = .returned v ∧ Ext w w' ∧ v = v0) :=
  h.mono fun _ _ hh => ⟨v0, hh.1, hh.2 ▸ Ext.refl w, rfl⟩
end
end Go.Proofs.Ytlfcbhagbdonhaa.Pb

/-
  A law for a region that draws its order, in which one operation writes into memory that others of it made: what it takes up is not looked at behind it.
  No condition; nothing here speaks of the program.
-/
import Derived.Test.YtlfcbhagbdonhaaReg
import Derived.Test.YtlfcbhagbdonhaaMore
namespace Go.Proofs.Ytlfcbhagbdonhaa.Pb
open Go Go.RowKit

def Parts2 (P : Program) (T : Nat → World → World → Prop) (TT : World → World → Prop) (G : Nat → Value → World → Prop) (dsts : List Tmp) (a0 : Act) (w0 : World) : Nat → List Oper → List (List (Nat × Tmp)) → List (Option (Tmp × Bool)) → Prop
  | i, o :: os, D :: Ds, g :: gs => (∀ (ρ : Operand → Value) (w : World), TT w0 w → (∀ x, (∀ d ∈ dsts, x ≠ .tmp d) → ρ x = a0.eval x) → DepsOk G ρ w D → Part P (T i) G i o ρ w g) ∧ Parts2 P T TT G dsts a0 w0 (i + 1) os Ds gs
  | _, _, _, _ => True
theorem Parts2.at {P : Program} {T : Nat → World → World → Prop} {TT : World → World → Prop} {G : Nat → Value → World → Prop} {dsts : List Tmp} {a0 : Act} {w0 : World} : ∀ {os : List Oper} {Ds : List (List (Nat × Tmp))} {gs : List (Option (Tmp × Bool))} {k : Nat}, Parts2 P T TT G dsts a0 w0 k os Ds gs →
    ∀ i o D g, os[i]? = some o → Ds[i]? = some D → gs[i]? = some g → ∀ (ρ : Operand → Value) (w : World), TT w0 w → (∀ x, (∀ d ∈ dsts, x ≠ .tmp d) → ρ x = a0.eval x) → DepsOk G ρ w D → Part P (T (k + i)) G (k + i) o ρ w g := by
  intro os
  induction os with
  | nil => intro Ds gs k _ i o D g h; simp at h
  | cons o os ih =>
    intro Ds gs k h i o' D g ho hD hg
    cases Ds with
    | nil => simp at hD
    | cons D0 Ds =>
      cases gs with
      | nil => simp at hg
      | cons g0 gs =>
        obtain ⟨h1, h2⟩ := h
        cases i with
        | zero =>
          simp at ho hD hg
          subst ho; subst hD; subst hg
          exact h1
        | succ i =>
          have := ih h2 i o' D g (by simpa using ho) (by simpa using hD) (by simpa using hg)
          rw [show k + (i + 1) = k + 1 + i by omega]
          exact this
/-- those that lean on what is taken up come ahead of the one that takes it up -/
def consB (ops : Array Oper) (D : List (List (Nat × Tmp))) (c : Nat) (cl : List Nat) : Bool :=
  D.zipIdx.all fun p => decide (p.2 = c) || reachB ops 12 c p.2 || p.1.all fun q => !cl.contains q.1
section
variable {P : Program} {ops : Array Oper} {Q : Exit → Act → World → Prop}
theorem region_every2 (TT : World → World → Prop) (T0 : ∀ w, TT w w) (T2 : ∀ {u v w}, TT u v → TT v w → TT u w) (T : Nat → World → World → Prop) (hTT : ∀ {i u v}, T i u v → TT u v) (c : Nat) (cl : List Nat) (G : Nat → Value → World → Prop) (hG : ∀ {i j v w w'}, T i w w' → ¬ (i = c ∧ (cl.contains j = true ∨ j = c)) → G j v w → G j v w')
    {a0 : Act} {w0 : World} {D : List (List (Nat × Tmp))} {gs : List (Option (Tmp × Bool))} {ds : List (Option Tmp)} (n0 : Nat) (hfine : fineB ops a0.tmps.size = true) (hD : depB ops D = true) (hgs : guardTab ops = gs) (hds : (ops.toList.take n0).map (·.dst) = ds) (hlate : lateB ops n0 = true) (hcn : c < n0) (hcons : consB ops D c cl = true)
    (hp : Parts2 P T TT G (ds.filterMap id) a0 w0 0 (ops.toList.take n0) D gs) (hq : ∀ w, TT w0 w → Rest (fun j v w => cond (cl.contains j) True (G j v w)) w (fun a => wpList P ops Q (ops.toList.drop n0) a w) 0 ds a0) :
    wpAny P .any ops Q ops.size (Array.replicate ops.size false) a0 w0 := by
  subst hgs; subst hds
  unfold depB at hD
  rw [Bool.and_eq_true] at hD
  obtain ⟨hD1, hD2⟩ := hD
  have hDl : D.length = ops.size := by simpa using hD1
  unfold fineB at hfine
  simp only [Bool.and_eq_true, List.all_eq_true, decide_eq_true_eq] at hfine
  obtain ⟨hf1, hf2, hf3⟩ := hfine
  unfold lateB at hlate
  rw [Bool.and_eq_true, decide_eq_true_eq, List.all_eq_true] at hlate
  obtain ⟨hn0, hlate⟩ := hlate
  have hfr : Fresh ops := fresh_of hf2
  have hdst : ∀ j d, dstOf ops j = some d → d ∈ ops.toList.filterMap (·.dst) := fun j d h => by
    unfold dstOf at h
    obtain ⟨o', ho', hd'⟩ := Option.bind_eq_some_iff.1 h
    exact List.mem_filterMap.2 ⟨o', by simpa using Array.mem_of_getElem? ho', hd'⟩
  have hsz : ∀ j d, dstOf ops j = some d → d < a0.tmps.size := fun j d h => hf3 d (hdst j d h)
  have hzip : ∀ i o, ops[i]? = some o → (o, i) ∈ ops.toList.zipIdx := fun i o h => by
    rw [List.mk_mem_zipIdx_iff_getElem?]; simpa using h
  have hback : ∀ i o, ops[i]? = some o → ∀ e ∈ o.after, Region.binds .any e = true → e.on < i := fun i o ho e he hb => by
    have h1 := (hf1 _ (hzip i o ho)).1 e (by simpa using he)
    rw [hb] at h1; simpa using h1
  have hafter : ∀ i o, ops[i]? = some o → n0 ≤ i → ∀ j, j < n0 → (∃ e ∈ o.after, e.on = j ∧ Region.binds .any e = true) ∨ reachB ops 12 i j = true := fun i o ho hi j hj => by
    have h1 := hlate _ (hzip i o ho)
    simp only [show ¬ i < n0 by omega, decide_false, Bool.false_or, Bool.and_eq_true] at h1
    have h2 := List.all_eq_true.1 h1.1 j (by simpa using hj)
    rw [Bool.or_eq_true] at h2
    rcases h2 with h2 | h2
    · obtain ⟨e, he, h4⟩ := List.any_eq_true.1 h2
      rw [Bool.and_eq_true] at h4
      exact .inl ⟨e, by simpa using he, by simpa using h4.1, h4.2⟩
    · exact .inr h2
  have hchain : ∀ i o, ops[i]? = some o → n0 < i → ∃ e ∈ o.after, e.on + 1 = i ∧ Region.binds .any e = true := fun i o ho hi => by
    have h1 := hlate _ (hzip i o ho)
    simp only [show ¬ i < n0 by omega, show ¬ i = n0 by omega, decide_false, Bool.false_or, Bool.and_eq_true] at h1
    obtain ⟨e, he, h4⟩ := List.any_eq_true.1 h1.2
    rw [Bool.and_eq_true] at h4
    exact ⟨e, by simpa using he, by simpa using h4.1, h4.2⟩
  have hconsD : ∀ i (hi : i < ops.size), ∀ p ∈ D[i]'(by omega), cl.contains p.1 = true → i = c ∨ reachB ops 12 c i = true := fun i hi p hpD hcm => by
    unfold consB at hcons
    have h1 := List.all_eq_true.1 hcons (D[i]'(by omega), i) (by rw [List.mk_mem_zipIdx_iff_getElem?]; exact List.getElem?_eq_getElem (by omega))
    simp only [Bool.or_eq_true, decide_eq_true_eq] at h1
    rcases h1 with (h1 | h1) | h1
    · exact .inl h1
    · exact .inr h1
    · have := List.all_eq_true.1 h1 p hpD
      rw [hcm] at this; cases this
  have main : ∀ (fuel : Nat) (L : Array Bool) (a : Act) (w : World), L.size = ops.size → (L.toList.count false) = fuel → TT w0 w → (∀ j, j < ops.size → L.getD j false = true → j < n0) → (∀ i, L.getD i false = true → ∀ o, ops[i]? = some o → ∀ e ∈ o.after, Region.binds .any e = true → L.getD e.on false = true) → (∃ vals, a = fillTo ops L vals a0 n0 ∧ ∀ j, j < n0 → L.getD j false = true → (L.getD c false = true ∧ cl.contains j = true) ∨ G j (vals j) w) → wpAny P .any ops Q fuel L a w := by
    intro fuel
    induction fuel with
    | zero =>
      intro L a w hLs hc hT hno hcl ⟨vals, ha, hvals⟩
      have hfinal : ∀ i, ((L.getD c false = true ∧ cl.contains i = true) ∨ G i (vals i) w) → cond (cl.contains i) True (G i (vals i) w) := fun i h => by
        cases hb : cl.contains i with
        | true => trivial
        | false =>
          rcases h with h | h
          · rw [hb] at h; cases h.2
          · exact h
      have hall : ∀ j, j < ops.size → L.getD j false = true := fun j hj => by
        have hj' : j < L.toList.length := by simpa [hLs] using hj
        cases hb : L.toList[j] with
        | true => simp [Array.getElem?_eq_getElem (show j < L.size by omega)]; simpa using hb
        | false => exact absurd hc (by have := List.count_pos_iff.2 (hb ▸ List.getElem_mem hj' : false ∈ L.toList); omega)
      have hnn : n0 = ops.size := by
        by_cases h : n0 < ops.size
        · have := hno n0 h (hall n0 h); omega
        · omega
      have hr := Rest.run (G := fun j v w => cond (cl.contains j) True (G j v w)) (w := w) (K := fun a => wpList P ops Q (ops.toList.drop n0) a w) (ops := ops) (vals := vals) (a0 := a0) ((ops.toList.take n0).map (·.dst)) 0 (fun i hi => by
          have hi' : i < n0 := by simp at hi; omega
          have hi2 : i < ops.size := by omega
          rw [List.getElem?_map, List.getElem?_take, if_pos hi', Nat.zero_add]
          simp [dstOf, hi2]) (fun i hi => by
          rw [Nat.zero_add]
          have hi' : i < n0 := by simp at hi; omega
          exact hfinal i (hvals i hi' (hall i (by omega)))) (hq w hT)
      have hlen : ((ops.toList.take n0).map (·.dst)).length = n0 := by simp; omega
      rw [Nat.zero_add, hlen, ← fillTo_all ops L vals a0 n0 (fun j hj => hall j (by omega)), ← ha, List.drop_of_length_le (by simp; omega)] at hr
      exact late_run (n0 := n0) hback hn0 hchain 0 ops.size L a w hLs (by omega) (by omega) (fun j hj => ⟨fun _ => hj, fun _ => hall j hj⟩) hr
    | succ fuel ih =>
      intro L a w hLs hc hT hno hcl ⟨vals, ha, hvals⟩
      have hfinal : ∀ i, ((L.getD c false = true ∧ cl.contains i = true) ∨ G i (vals i) w) → cond (cl.contains i) True (G i (vals i) w) := fun i h => by
        cases hb : cl.contains i with
        | true => trivial
        | false =>
          rcases h with h | h
          · rw [hb] at h; cases h.2
          · exact h
      by_cases hall : ∀ j, j < n0 → L.getD j false = true
      · -- the rest runs in its order
        have hr := Rest.run (G := fun j v w => cond (cl.contains j) True (G j v w)) (w := w) (K := fun a => wpList P ops Q (ops.toList.drop n0) a w) (ops := ops) (vals := vals) (a0 := a0) ((ops.toList.take n0).map (·.dst)) 0 (fun i hi => by
            have hi' : i < n0 := by simp at hi; omega
            have hi2 : i < ops.size := by omega
            rw [List.getElem?_map, List.getElem?_take, if_pos hi', Nat.zero_add]
            simp [dstOf, hi2]) (fun i hi => by
            rw [Nat.zero_add]
            have hi' : i < n0 := by simp at hi; omega
            exact hfinal i (hvals i hi' (hall i hi'))) (hq w hT)
        have hlen : ((ops.toList.take n0).map (·.dst)).length = n0 := by simp; omega
        rw [Nat.zero_add, hlen, ← fillTo_all ops L vals a0 n0 hall, ← ha] at hr
        have hcount : n0 + (fuel + 1) = ops.size := by
          have hL1 : L.toList = List.replicate n0 true ++ List.replicate (ops.size - n0) false := by
            apply List.ext_getElem?
            intro i
            by_cases hi : i < ops.size
            · have hiL : i < L.size := by omega
              by_cases hi0 : i < n0
              · have := hall i hi0
                simp [Array.getElem?_eq_getElem hiL] at this
                rw [List.getElem?_append_left (by simpa using hi0)]
                simp [hi0, Array.getElem?_eq_getElem hiL, this]
              · have hnl : ¬ L.getD i false = true := fun h => hi0 (hno i hi h)
                simp [Array.getElem?_eq_getElem hiL] at hnl
                rw [List.getElem?_append_right (by simpa using (by omega : n0 ≤ i)), List.getElem?_replicate, if_pos (by simp; omega)]
                simp [Array.getElem?_eq_getElem hiL, hnl]
            · rw [List.getElem?_eq_none (by simp; omega), List.getElem?_eq_none (by simp; omega)]
          rw [hL1, List.count_append, List.count_replicate_self] at hc
          have h0 : List.count false (List.replicate n0 true) = 0 := by
            rw [List.count_eq_zero]; intro h; have := List.eq_of_mem_replicate h; cases this
          omega
        refine late_run (n0 := n0) hback hn0 hchain (fuel + 1) n0 L a w hLs (Nat.le_refl _) hcount (fun j hj => ⟨hno j hj, hall j⟩) ?_
        have hw := wpOps_eq_wpList (P := P) (ops := ops) (Q := Q) (ops.toList.drop n0) n0 (fun j => by rw [List.getElem?_drop]; simp)
        rw [show (ops.toList.drop n0).length = fuel + 1 by simp; omega] at hw
        rw [hw]; exact hr
      · have hleast : ∃ i, i < n0 ∧ L.getD i false = false ∧ ∀ j, j < i → L.getD j false = true := by
          have hex : ∃ i, i < n0 ∧ L.getD i false = false := by
            obtain ⟨j, hj⟩ := Classical.not_forall.1 hall
            obtain ⟨hj1, hj2⟩ := Classical.not_imp.1 hj
            exact ⟨j, hj1, by simpa using hj2⟩
          obtain ⟨i, hi, he⟩ := hex
          induction i using Nat.strongRecOn with
          | ind i ih2 =>
            by_cases h : ∀ j, j < i → L.getD j false = true
            · exact ⟨i, hi, he, h⟩
            · obtain ⟨j, hj⟩ := Classical.not_forall.1 h
              obtain ⟨hj1, hj2⟩ := Classical.not_imp.1 hj
              exact ih2 j hj1 (by omega) (by simpa using hj2)
        refine ⟨fun hnil => ?_, fun i hi => ?_⟩
        · exfalso
          obtain ⟨i, hi, he, hmin⟩ := hleast
          have hin : i < ops.size := by omega
          have ho : ops[i]? = some ops[i] := Array.getElem?_eq_getElem hin
          have hmem : i ∈ Region.ready .any ops L := by
            unfold Region.ready
            rw [List.mem_filter]
            refine ⟨by simpa using hin, ?_⟩
            have e : L.getD i true = false := by
              simp [Array.getElem?_eq_getElem (show i < L.size by omega)] at he ⊢; exact he
            rw [e, ho]
            simp only [Bool.not_false, Bool.true_and, Option.map_some, Option.getD_some]
            rw [Array.all_eq_true']
            intro e' he'
            cases hb : Region.binds .any e' with
            | false => rfl
            | true => rw [hmin _ (hback i _ ho e' he' hb)]; rfl
          rw [hnil] at hmem
          simp at hmem
        · unfold Region.ready at hi
          rw [List.mem_filter] at hi
          obtain ⟨h1, h2⟩ := hi
          have hin : i < ops.size := by simpa using h1
          have ho : ops[i]? = some ops[i] := Array.getElem?_eq_getElem hin
          rw [ho] at h2
          simp only [Option.map_some, Option.getD_some, Bool.and_eq_true] at h2
          obtain ⟨h2, h3⟩ := h2
          have hLi : L.getD i false = false := by
            simp [Array.getElem?_eq_getElem (show i < L.size by omega)] at h2 ⊢; exact h2
          have hi0 : i < n0 := by
            by_cases h : i < n0
            · exact h
            · exfalso
              refine hall fun j hj => ?_
              rcases hafter i _ ho (by omega) j hj with ⟨e, he, he1, hb⟩ | hr
              · have := (Array.all_eq_true'.1 h3) e he
                rw [hb, he1] at this
                simpa using this
              · refine reachB_listed hcl 12 i j (fun o' ho' e he hb => ?_) hr
                rw [ho] at ho'
                cases ho'
                have := (Array.all_eq_true'.1 h3) e he
                rw [hb] at this
                simpa using this
          have hasz : a.tmps.size = a0.tmps.size := by rw [ha, fillTo_size]
          have htk : (ops.toList.take n0)[i]? = some ops[i] := by rw [List.getElem?_take, if_pos hi0]; simp
          have hoth : ∀ x, (∀ d ∈ ((ops.toList.take n0).map (·.dst)).filterMap id, x ≠ .tmp d) → a.eval x = a0.eval x := fun x hx => by
            rw [ha]
            refine fillTo_other ops L vals a0 x (fun j d hj hd => hx d ?_) n0
            have hjs : j < ops.size := by
              unfold dstOf at hd
              cases hoj : ops[j]? with
              | none => rw [hoj] at hd; simp at hd
              | some o => exact (Array.getElem?_eq_some_iff.1 hoj).1
            have hjn := hno j hjs hj
            rw [List.filterMap_map]
            refine List.mem_filterMap.2 ⟨ops[j], ?_, ?_⟩
            · exact List.mem_of_getElem? (i := j) (by rw [List.getElem?_take, if_pos hjn]; simp)
            · unfold dstOf at hd
              rw [Array.getElem?_eq_getElem hjs] at hd
              exact hd
          have hdep : ∀ e ∈ ops[i].after, Region.binds .any e = true → ∀ d, dstOf ops e.on = some d → (e.on, d) ∈ D[i]'(by omega) → G e.on (a.eval (.tmp d)) w := fun e he hb d hd hpD => by
            have hon : e.on < n0 := by have := hback i _ ho e he hb; omega
            have hl : L.getD e.on false = true := by
              have := (Array.all_eq_true'.1 h3) e he
              rw [hb] at this
              simpa using this
            rw [ha, fillTo_at ops hfr L vals a0 e.on d hd (hsz _ _ hd) hl n0 hon]
            rcases hvals _ hon hl with ⟨hcc, hcm⟩ | h
            · exfalso
              rcases hconsD i hin (e.on, d) hpD hcm with h | h
              · rw [h] at hLi; rw [hLi] at hcc; cases hcc
              · have h6 := reachB_listed hcl 12 c i (fun o' ho' e he hb => hcl c hcc o' ho' e he hb) h
                rw [h6] at hLi; cases hLi
            · exact h
          have hDi : D[i]? = some (D[i]'(by omega)) := List.getElem?_eq_getElem (by omega)
          have hpart := hp.at i ops[i] _ _ htk hDi (by unfold guardTab; rw [List.getElem?_map]; simp [hin]; rfl) a.eval w hT hoth (DepsOk.of fun p hp => by
            have hz : (ops[i], D[i]'(by omega)) ∈ ops.toList.zip D := by
              refine List.mem_iff_getElem?.2 ⟨i, ?_⟩
              rw [List.getElem?_zip_eq_some]
              exact ⟨by simp, hDi⟩
            have h5 := List.all_eq_true.1 (List.all_eq_true.1 hD2 _ hz) p hp
            rw [Bool.and_eq_true] at h5
            obtain ⟨h6, h7⟩ := h5
            obtain ⟨e, he, h8⟩ := List.any_eq_true.1 h7
            rw [Bool.and_eq_true] at h8
            have h9 : e.on = p.1 := by simpa using h8.1
            have := hdep e (by simpa using he) h8.2 p.2 (by rw [h9]; exact of_decide_eq_true h6) (by rw [h9]; exact hp)
            rw [h9] at this
            exact this)
          rw [Nat.zero_add] at hpart
          have hnext : ∀ v w', TT w w' → (∀ j v, j ≠ i → ¬ (i = c ∧ cl.contains j = true) → G j v w → G j v w') → G i v w' → wpAny P .any ops Q fuel (L.setIfInBounds i true) (a.put ops[i].dst v) w' := fun v w' hT' hGG hv => by
            refine ih _ _ _ (by simpa using hLs) ?_ (T2 hT hT') (fun j hj hl => ?_) (fun j hl o' ho' e he hb => ?_) ⟨fun j => if j = i then v else vals j, ?_, fun j hj hl => ?_⟩
            · have hiL : i < L.toList.length := by simpa [hLs] using hin
              rw [Array.toList_setIfInBounds, List.count_set (h := hiL)]
              have : L.toList[i] = false := by
                simp [Array.getElem?_eq_getElem (show i < L.size by omega)] at hLi; simpa using hLi
              rw [this]
              simp
              simp at hc
              omega
            · by_cases e : j = i
              · subst e; exact hi0
              · rw [show (L.setIfInBounds i true).getD j false = L.getD j false by simp [Array.getElem?_setIfInBounds_ne (Ne.symm e)]] at hl
                exact hno j hj hl
            · have hl0 : L.getD e.on false = true := by
                by_cases ej : j = i
                · subst ej
                  rw [ho] at ho'
                  cases ho'
                  have := (Array.all_eq_true'.1 h3) e he
                  rw [hb] at this
                  simpa using this
                · rw [show (L.setIfInBounds i true).getD j false = L.getD j false by simp [Array.getElem?_setIfInBounds_ne (Ne.symm ej)]] at hl
                  exact hcl j hl o' ho' e he hb
              by_cases e2 : e.on = i
              · rw [e2] at hl0; rw [hLi] at hl0; cases hl0
              · rw [show (L.setIfInBounds i true).getD e.on false = L.getD e.on false by simp [Array.getElem?_setIfInBounds_ne (Ne.symm e2)]]; exact hl0
            · rw [fillTo_set ops hfr L vals a0 i v (by omega) hLi, if_pos hi0, ← ha]
              unfold dstOf
              rw [ho]; rfl
            · by_cases e : j = i
              · subst e; right; show G j (if j = j then v else vals j) w'; rw [if_pos rfl]; exact hv
              · rw [show (L.setIfInBounds i true).getD j false = L.getD j false by simp [Array.getElem?_setIfInBounds_ne (Ne.symm e)]] at hl
                by_cases hic : i = c ∧ cl.contains j = true
                · left; exact ⟨by rw [← hic.1]; simp [show i < L.size by omega], hic.2⟩
                · rcases hvals j hj hl with ⟨h1, h2⟩ | h
                  · left
                    refine ⟨?_, h2⟩
                    by_cases e3 : c = i
                    · rw [e3]; simp [show i < L.size by omega]
                    · rw [show (L.setIfInBounds i true).getD c false = L.getD c false by simp [Array.getElem?_setIfInBounds_ne (Ne.symm e3)]]; exact h1
                  · right
                    show G j (if j = i then v else vals j) w'
                    rw [if_neg e]
                    exact hGG j _ e hic h
          unfold wpOp
          simp only [ho]
          cases hgd : ops[i].guard with
          | none =>
            rw [hgd] at hpart
            rw [if_pos (by unfold Region.wanted; rw [hgd])]
            exact .inl (Gives.wp hpart fun v w' h => hnext v w' (hTT h.1) (fun j v hne hn hg => hG h.1 (fun h2 => h2.2.elim (fun h3 => hn ⟨h2.1, h3⟩) fun h3 => hne (h3.trans h2.1.symm)) hg) h.2)
          | some gb =>
            obtain ⟨j, b⟩ := gb
            rw [hgd] at hpart
            have hsome := (hf1 _ (hzip i _ ho)).2
            simp only [hgd] at hsome
            obtain ⟨d, hd⟩ := Option.isSome_iff_exists.1 hsome
            simp only [hd, Option.map_some] at hpart
            rcases hpart with ⟨hb, hpart⟩ | ⟨hb, hpart⟩
            · rw [if_pos ((wanted_of_guard hgd hd (by rw [hasz]; exact hsz _ _ hd)).2 hb)]
              exact .inl (Gives.wp hpart fun v w' h => hnext v w' (hTT h.1) (fun j v hne hn hg => hG h.1 (fun h2 => h2.2.elim (fun h3 => hn ⟨h2.1, h3⟩) fun h3 => hne (h3.trans h2.1.symm)) hg) h.2)
            · rw [if_neg fun h => hb ((wanted_of_guard hgd hd (by rw [hasz]; exact hsz _ _ hd)).1 h)]
              exact hnext undef w (T0 w) (fun _ _ _ _ h => h) hpart
  refine main ops.size _ a0 w0 (by simp) (by simp) (T0 w0) (fun j hj h => by simp [hj] at h) (fun i h => by by_cases hi : i < ops.size <;> simp [hi] at h) ⟨fun _ => undef, ?_, fun j hj h => ?_⟩
  · have : ∀ n, fillTo ops (Array.replicate ops.size false) (fun _ => undef) a0 n = a0 := by
      intro n
      induction n with
      | zero => rfl
      | succ n ih =>
        unfold fillTo
        rw [if_neg (by simp [Array.getElem?_replicate]; split <;> rfl), ih]
    rw [this]
  · have hj' : j < ops.size := by omega
    simp [hj'] at h
end


def LastsX (T : World → World → Prop) (c : Nat) (cl : List Nat) : Nat → List (Value → World → Prop) → Prop
  | _, [] => True
  | i, g :: gs => (cl.contains i = true ∨ i = c ∨ ∀ v w w', T w w' → g v w → g v w') ∧ LastsX T c cl (i + 1) gs
theorem LastsX.nth {T : World → World → Prop} {c : Nat} {cl : List Nat} : ∀ {Gs : List (Value → World → Prop)} {k : Nat}, LastsX T c cl k Gs → ∀ {i v w w'}, T w w' → ¬ (cl.contains (k + i) = true ∨ k + i = c) → nth Gs i v w → nth Gs i v w' := by
  intro Gs
  induction Gs with
  | nil => intro _ _ i v w w' _ _ _; trivial
  | cons g gs ih =>
    intro k h i v w w' hT hn hg
    cases i with
    | zero =>
      rcases h.1 with h1 | h1 | h1
      · exact absurd (.inl h1) hn
      · exact absurd (.inr h1) hn
      · exact h1 v w w' hT hg
    | succ i => exact ih h.2 (i := i) hT (by rw [show k + 1 + i = k + (i + 1) by omega]; exact hn) hg

def TTB (B : Nat) (u v : World) : Prop := B ≤ u.heap.size → Below B u v
theorem TTB.ext {u w : World} (h : TTB u.heap.size u.drew w) : Ext u w := Ext.undrew (h (Nat.le_refl _))
def TOne1 (B c : Nat) (i : Nat) (u v : World) : Prop := cond (Nat.beq i c) (Below B u v) (Ext u v)
section
variable {P : Program} {ops : Array Oper} {Q : Exit → Act → World → Prop}
theorem region_ext1 (Gs : List (Value → World → Prop)) (D : List (List (Nat × Tmp))) (gs : List (Option (Tmp × Bool))) (ds : List (Option Tmp)) (n0 c : Nat) (cl : List Nat)
    {a0 : Act} {w0 : World} (hfine : fineB ops a0.tmps.size = true) (hD : depB ops D = true) (hgs : guardTab ops = gs) (hds : (ops.toList.take n0).map (·.dst) = ds) (hlate : lateB ops n0 = true) (hcn : decide (c < n0) = true) (hcons : consB ops D c cl = true) (hG : Lasts Ext Gs) (hC : LastsX (Below w0.heap.size) c cl 0 Gs)
    (hp : Parts2 P (TOne1 w0.heap.size c) (TTB w0.heap.size) (nth Gs) (ds.filterMap id) a0 w0.drew 0 (ops.toList.take n0) D gs) (hq : ∀ w, Ext w0 w → Rest (fun j v w => cond (cl.contains j) True (nth Gs j v w)) w (fun a => wpList P ops Q (ops.toList.drop n0) a w) 0 ds a0) :
    wpAny P .any ops Q ops.size (Array.replicate ops.size false) a0 w0.drew := by
  refine region_every2 (TTB w0.heap.size) (fun w _ => Below.refl _ _) (fun h k hB => (h hB).trans (k (Nat.le_trans hB (h hB).size))) (TOne1 w0.heap.size c) ?_ c cl (nth Gs) ?_ n0 hfine hD hgs hds hlate (of_decide_eq_true hcn) hcons hp fun w h => hq w h.ext
  · intro i u v h hB
    unfold TOne1 at h
    cases hb : Nat.beq i c with
    | true => rw [hb] at h; exact h
    | false => rw [hb] at h; exact Below.mono h hB
  · intro i j v w w' h hn hg
    unfold TOne1 at h
    cases hb : Nat.beq i c with
    | true =>
      rw [hb] at h
      refine LastsX.nth hC (i := j) h (fun hc => hn ⟨Nat.eq_of_beq_eq_true hb, ?_⟩) hg
      rw [Nat.zero_add] at hc; exact hc
    | false => rw [hb] at h; exact hG.nth h hg
theorem gives_low {B : Nat} {ρ : Operand → Value} {o : Oper} {w w' : World} {G : Value → World → Prop} {v : Value} (h : (execOp ρ o).run P w = .ok (.value v) w') (hB : Below B w w') (hg : G v w') : Gives P ρ o w (fun v w' => Below B w w' ∧ G v w') := .inl ⟨v, w', h, hB, hg⟩
end

theorem exec_builtinR {P : Program} {ρ : Operand → Value} {w w' : World} {v : Value} {d : Option Tmp} {ty : TypeId} {pos : String} {af : Array Edge} {gd : Option (Nat × Bool)} {b : Builtin} {args : Array Operand} {ts : Array TypeId} (h : (builtin b ts ty (args.map fun | .const _ => true | _ => false) (args.map ρ)).run P w = .ok (.value v) w') :
    (execOp ρ ⟨d, .call ⟨.builtin b, args, ts⟩, ty, pos, af, gd⟩).run P w = .ok (.value v) w' := by
  simp only [execOp, resolve, invoke, Sem.run_bind, Sem.run_pure, Result.andThen_ok]
  exact h
theorem exec_appendR {P : Program} {ρ : Operand → Value} {w w' : World} {v : Value} {d : Option Tmp} {ty : TypeId} {pos : String} {af : Array Edge} {gd : Option (Nat × Bool)} {args : Array Operand} {ts : Array TypeId} (h : (Builtin.append_ ts ty (args.map ρ)).run P w = .ok v w') :
    (execOp ρ ⟨d, .call ⟨.builtin .append, args, ts⟩, ty, pos, af, gd⟩).run P w = .ok (.value v) w' :=
  exec_builtinR (by simp only [builtin, Sem.run_bind, h, Result.andThen_ok, Sem.run_pure])

theorem Own.zero {α : Type} (r : Rp α) (e : TypeId) {w : World} {k : Nat} (hk : w.heap[k]? = some (.cells #[] e (0, 0))) : Own r e w (fun j => j = k) ([] : List α) (.slice (some ⟨k, 0, none⟩) 0 0) :=
  ⟨[], ⟨by simp, .inr ⟨k, 0, #[], rfl, Nat.zero_le _, hk, Nat.le_refl _, by unfold maxLen; omega, by simp, by simp⟩⟩, fun j hj => by simp [Value.ownBlock] at hj; exact hj.symm, rfl⟩
/-- append onto an empty row without room: nothing that lay there turns -/
theorem run_append_ext0 {P : Program} {α : Type} {r : Rp α} {w : World} {G : Nat → Prop} {ys : List α} {y : Value} {t ty e : TypeId} {z : Value} {bytes k : Nat}
    (ht : P.underlying t = some (.slice e)) (hinfo : (P.info? e).map (fun i => (i.zero, i.size, i.bytes)) = some (some z, r.sz, bytes)) (hzs : z.cells.size = r.sz) (hsz : 0 < r.sz)
    (hk : w.heap[k]? = some (.cells #[] e (0, 0))) (hy : View r w G ys y) (hGk : ¬ G k) (h63 : ys.length ≤ maxLen) (hbytes : ys.length * bytes ≤ 140737488355328) :
    ∃ v' w', (Builtin.append_ #[t, t] ty #[.slice (some ⟨k, 0, none⟩) 0 0, y]).run P w = .ok v' w' ∧ Ext w w' ∧ Own r e w' (fun j => G j ∨ j = k ∨ w.heap.size ≤ j) ys v' ∧ ∃ g c, v' = .slice (some ⟨g, 0, none⟩) ys.length c ∧ ys.length ≤ c ∧ (g = k ∨ w.heap.size ≤ g) := by
  obtain ⟨i0, hi, hz0, hz1, hz2⟩ := info_parts hinfo
  by_cases hn : ys = []
  · subst hn
    obtain ⟨A, c, rfl, hc, hA, h⟩ := hy
    refine ⟨.slice (some ⟨k, 0, none⟩) 0 0, w, ?_, Ext.refl w, (Own.zero r e hk).mono fun j h => .inr (.inl h), k, 0, rfl, Nat.le_refl _, .inl rfl⟩
    cases A <;> simp [Builtin.append_, run_underlying ht, sizeOf, typeInfo, hi, Builtin.lenOf, Builtin.firstCells, storeCells, loadCells, loadCellsFrom]
  · obtain ⟨v1, w1, hr1, ho1, _, _, _⟩ := run_append_view (ty := ty) ht hinfo hzs hsz ((Own.zero r e hk).mono fun j (h : j = k) => h) hy (fun j hj e' => by simp [Value.ownBlock] at e'; exact hGk (e' ▸ hj)) (by simpa using h63) (by simpa using hbytes)
    obtain ⟨A, c, rfl, hc, hA, h⟩ := hy
    rcases h with rfl | ⟨b, off, cells, rfl, hb, hl, hat, he⟩
    · exact absurd rfl hn
    · have hne : 0 < ys.length := by cases ys with | nil => exact absurd rfl hn | cons _ _ => simp
      have hlc : cells.length = ys.length * r.sz := he.len fun _ _ h => r.len h
      have hrun := run_append_grow (P := P) (ty := ty) w t e i0 z ht hi hz0 ⟨k, 0, none⟩ 0 0 [] (by simp) (by intro j v hj; simp at hj) ⟨b, off, none⟩ ys.length c cells (by rw [hlc, hz1]) (fun j v hj => by rw [add_off]; exact hat j v hj) (by omega) (by unfold maxLen at h63; omega) (growslice_fits (by omega) (by rw [hz2, Nat.zero_add]; exact hbytes))
      rw [hrun] at hr1
      cases hr1
      refine ⟨_, _, hrun, (Ext.refl w).trans ((Below.refl w.heap.size w).drew.alloc (Nat.le_refl _) _), ?_, w.heap.size, _, by rw [Nat.zero_add], ?_, .inr (Nat.le_refl _)⟩
      · rw [List.nil_append] at ho1
        exact ho1.mono fun j h => by rcases h with h | h | h <;> simp_all
      · exact grownCap_ge w ys.length 0 e
/-- append onto a row that lies in memory above B -/
theorem run_append_low {P : Program} {α : Type} {r : Rp α} {w : World} {F G : Nat → Prop} {B : Nat} {xs ys : List α} {v y : Value} {t ty e : TypeId} {z : Value} {bytes : Nat}
    (ht : P.underlying t = some (.slice e)) (hinfo : (P.info? e).map (fun i => (i.zero, i.size, i.bytes)) = some (some z, r.sz, bytes)) (hzs : z.cells.size = r.sz) (hsz : 0 < r.sz)
    (hown : Own r e w F xs v) (hv : ∀ k, v.ownBlock = some k → B ≤ k) (hB : B ≤ w.heap.size) (hy : View r w G ys y) (hG : ∀ k, G k → some k ≠ v.ownBlock) (h63 : xs.length + ys.length ≤ maxLen) (hbytes : (xs.length + ys.length) * bytes ≤ 140737488355328) :
    ∃ v' w', (Builtin.append_ #[t, t] ty #[v, y]).run P w = .ok v' w' ∧ Below B w w' ∧ Own r e w' (fun j => F j ∨ G j ∨ w.heap.size ≤ j) (xs ++ ys) v' ∧ (∀ k, v'.ownBlock = some k → B ≤ k) := by
  obtain ⟨v', w', hr, ho, hk, _, hb⟩ := run_append_view (ty := ty) ht hinfo hzs hsz hown hy hG h63 hbytes
  refine ⟨v', w', hr, hk.below hB fun i hi e' => ?_, ho, fun k hk' => ?_⟩
  · have := hv i e'.symm; omega
  · rcases hb with hb | ⟨j, hj, hle⟩
    · exact hv k (by rw [← hb]; exact hk')
    · rw [hj] at hk'; cases hk'; omega
end Go.Proofs.Ytlfcbhagbdonhaa.Pb

/-
  Contract: what is left of a disk when it crashes.
  Lengths within the rows' own reach.
-/
import Derived.Test.YtlfcbhagbdonhaaDkK
namespace Go.Proofs.Ytlfcbhagbdonhaa.Asc
set_option linter.unusedSimpArgs false
set_option linter.unusedVariables false
open Go Go.RowKit Go.Proofs.Ytlfcbhagbdonhaa.Pb

/-- how many loose bytes are left of a file, and the picks behind -/
def crash1 (f : Fl) (ps : List Int) : Nat × List Int :=
  if f.b.length - f.sy = 0 then (0, ps) else match ps with
    | [] => (0, [])
    | p :: ps => ((p % ((f.b.length - f.sy : Nat) + 1 : Int)).toNat, ps)
def crashed (f : Fl) (k : Nat) : Fl := ⟨f.name, f.b.take (f.sy + k), f.sy + k⟩
theorem crashF_cons (f : Fl) (fs : List Fl) (ps : List Int) : crashF (f :: fs) ps = crashed f (crash1 f ps).1 :: crashF fs (crash1 f ps).2 := by
  unfold crash1 crashed
  cases ps with
  | nil => by_cases h : f.b.length - f.sy = 0 <;> simp [crashF, h]
  | cons p ps => by_cases h : f.b.length - f.sy = 0 <;> simp [crashF, h]
theorem crash1_le (f : Fl) (ps : List Int) : (crash1 f ps).1 ≤ f.b.length - f.sy := by
  unfold crash1
  split
  · exact Nat.zero_le _
  · cases ps with
    | nil => exact Nat.zero_le _
    | cons p ps =>
      show (p % (((f.b.length - f.sy : Nat) : Int) + 1)).toNat ≤ _
      have h1 := Int.emod_lt_of_pos p (show (0 : Int) < ((f.b.length - f.sy : Nat) : Int) + 1 by omega)
      omega
theorem crash1_zero (f : Fl) (ps : List Int) (h : f.b.length - f.sy = 0) : crash1 f ps = (0, ps) := by unfold crash1; rw [if_pos h]
theorem crash1_nil (f : Fl) : crash1 f [] = (0, []) := by unfold crash1; split <;> rfl
theorem crash1_one (f : Fl) (p : Int) (ps : List Int) (h : ¬ f.b.length - f.sy = 0) : crash1 f (p :: ps) = ((p % ((f.b.length - f.sy : Nat) + 1 : Int)).toNat, ps) := by unfold crash1; rw [if_neg h]
theorem crash1_len (f : Fl) (ps : List Int) : (crash1 f ps).2.length ≤ ps.length := by
  unfold crash1
  split
  · exact Nat.le_refl _
  · cases ps with
    | nil => exact Nat.le_refl _
    | cons p ps => exact Nat.le_succ _
theorem crashF_names : ∀ (fs : List Fl) (ps : List Int), names (crashF fs ps) = names fs
  | [], _ => rfl
  | f :: fs, ps => by
    rw [crashF_cons]
    show f.name :: names (crashF fs _) = f.name :: names fs
    rw [crashF_names fs]
theorem setF_mid {A B : List Fl} {f f' : Fl} (ho : Ord (A ++ f :: B)) (e : f'.name = f.name) : setF (A ++ f :: B) f' = A ++ f' :: B := by
  have hu := ho.uniq
  have hne : ∀ x ∈ A ++ B, x.name ≠ f.name := by
    intro x hx hn
    have hp : List.Pairwise (· < ·) (names A ++ f.name :: names B) := by
      have := ho; unfold Ord names at this; rw [List.map_append, List.map_cons] at this; exact this
    rw [List.pairwise_append] at hp
    rcases List.mem_append.1 hx with hx | hx
    · have := hp.2.2 x.name (List.mem_map.2 ⟨x, hx, rfl⟩) f.name (by simp)
      rw [hn] at this; exact List.lt_irrefl _ this
    · have := (List.pairwise_cons.1 hp.2.1).1 x.name (List.mem_map.2 ⟨x, hx, rfl⟩)
      rw [hn] at this; exact List.lt_irrefl _ this
  have hid : ∀ L : List Fl, (∀ x ∈ L, x.name ≠ f.name) → L.map (fun g => if g.name == f'.name then f' else g) = L := by
    intro L hL
    conv => rhs; rw [← List.map_id L]
    refine List.map_congr_left fun x hx => ?_
    rw [if_neg (by rw [e]; simpa using hL x hx)]; rfl
  unfold setF
  rw [List.map_append, List.map_cons, if_pos (by rw [e]; simp), hid A fun x hx => hne x (List.mem_append.2 (.inl hx)), hid B fun x hx => hne x (List.mem_append.2 (.inr hx))]

section
variable {w : World} {S : Nat → Prop} {d : Nat} {dk : Dk} {g : Tx → Option Nat} {tag : Nat → Option Tx} {mv : Option Nat}
set_option maxHeartbeats 8000000 in
set_option maxRecDepth 20000 in
theorem crash_any (h : DIn w S d dk g tag mv) (hlen : dk.fs.length ≤ 1000) (hfl : ∀ f ∈ dk.fs, f.b.length ≤ 999999999) (ps : List Int) (pv : Value) (F : Nat → Prop) (hp : View Rp.int w F ps pv) (hps : ps.length ≤ 1000000) :
    Calls Try.prog 13 #[.pointer (some ⟨d, 0, none⟩), pv] w fun e w' => e = .returned (.pointer (some ⟨w.heap.size, 0, none⟩)) ∧ DAt w' (fun k => w.heap.size < k) w.heap.size (dk.crash ps) ∧ Below w.heap.size w w' := by
  refine calls_gen fun R hR => ?_
  have HP := Lib.hid hp.bnd
  have H := Lib.hid h; have HFL := Lib.hid hfl
  have hlt := h.lt
  clear h hfl hp
  obtain ⟨d0, hd0⟩ : ∃ d0, w.heap.size = d0 := ⟨_, rfl⟩
  have HD0 := Lib.hid hd0
  go_enter Try.func13, Try.ntmps13
  go_wp2_with fail
  refine (copied_any H.out hlen (fun f hf => Nat.le_trans (HFL.out f hf) (by decide))).mono ?_
  rintro e w1 ⟨rfl, ⟨g1, tag1, mv1, hd1⟩, hb1⟩
  rw [hd0] at hd1 hb1 hR
  rw [hd0]
  have HD1 := Lib.hid hd1; have HB1 := Lib.hid hb1
  clear hd1 hb1 hlt hd0
  have hlt1 := HD1.out.lt
  have c2 := blk_cell HD1.out.blk 2
  have c3 := blk_cell HD1.out.blk 3
  have c4 := blk_cell HD1.out.blk 4
  have f2 := blk_free HD1.out.blk 2
  have f3 := blk_free HD1.out.blk 3
  have f4 := blk_free HD1.out.blk 4
  simp only [dcells, List.getElem?_toArray, List.getElem?_cons_zero, List.getElem?_cons_succ] at c2 c3 c4
  obtain ⟨w1', hw1'⟩ : ∃ w', ((w1.setCell ⟨d0, 2, none⟩ (.int .i64 0)).setCell ⟨d0, 3, none⟩ (.bool false)).setCell ⟨d0, 4, none⟩ (.int .i64 0) = w' := ⟨_, rfl⟩
  have hk1 : Keep (fun k => k = d0) w1 w1' := hw1' ▸ (((Keep.refl (fun k => k = d0) w1).set (p := ⟨d0, 2, none⟩) rfl (.int .i64 0)).set (p := ⟨d0, 3, none⟩) rfl (.bool false)).set (p := ⟨d0, 4, none⟩) rfl (.int .i64 0)
  have hz1 : w1'.heap.size = w1.heap.size := by rw [← hw1']; simp only [size_setCell]
  have hd1' : DIn w1' (fun k => d0 < k) d0 { room := dk.room, fs := dk.fs } g1 tag1 mv1 :=
    HD1.out.scal hk1 (hw1' ▸ blk_set (blk_set (blk_set HD1.out.blk 2 (.int .i64 0)) 3 (.bool false)) 4 (.int .i64 0)) rfl ⟨HD1.out.ok.ord, HD1.out.ok.sy, HD1.out.ok.nam, fun v e => by cases e⟩
  have HD1' := Lib.hid hd1'; have HK1 := Lib.hid hk1; have HZ1 := Lib.hid hz1; have HW1 := Lib.hid hw1'
  clear hd1' hk1 hz1 hw1'
  go_upto_region 5 with fail
  rw [HW1.out]
  clear c2 c3 c4 f2 f3 f4 hlt1 HW1
  go_wp2_with fail
  refine (names_any HD1'.out (Nat.le_trans hlen (by decide))).mono ?_
  rintro e w2 ⟨nv, rfl, hn, hb2⟩
  have hn : Own Rp.str 9 w2 (w1'.heap.size ≤ ·) (names dk.fs) nv := hn
  obtain ⟨NA, nc, rfl, hnc⟩ := hn.slice
  have hnl : (names dk.fs).length = dk.fs.length := by simp [names]
  obtain ⟨N, hN⟩ : ∃ N, (names dk.fs).length = N := ⟨_, rfl⟩
  have hN1 : N ≤ 1000 := by omega
  have HN := Lib.hid hN; have HB2 := Lib.hid hb2
  obtain ⟨b1, hb1z⟩ : ∃ b, w1'.heap.size = b := ⟨_, rfl⟩
  obtain ⟨b2, hb2z⟩ : ∃ b, w2.heap.size = b := ⟨_, rfl⟩
  have hb12 : b1 ≤ b2 := by have := hb2.size; omega
  have hd01 : d0 < b1 := by have := HD1'.out.lt; omega
  have HNV : Hid (View Rp.str w2 (fun k => b1 ≤ k ∧ k < b2) (names dk.fs) (.slice NA N nc)) := Lib.hid (by
    have := hn.view.bnd; rw [hN, hb1z, hb2z] at this; exact this)
  have HD2 : Hid (DIn w2 (fun k => (d0 < k ∧ k < b1) ∨ b2 ≤ k) d0 { room := dk.room, fs := dk.fs } g1 tag1 mv1) := Lib.hid ((HD1'.out.mono (S' := fun k => (d0 < k ∧ k < b1) ∨ b2 ≤ k) (fun k hk h => .inl ⟨h, by omega⟩) (fun h => by omega)).below hb2)
  have HZ := Lib.hid (And.intro hb1z hb2z)
  have hx1 : Below d0 w1 w1' := HK1.out.below (by have := HD1.out.lt; omega) fun i hi e => by omega
  have hx2 : Below d0 w1' w2 := hb2.mono (by omega)
  have HX : Hid (Below d0 w w2) := Lib.hid (HB1.out.trans (hx1.trans hx2))
  have HP2 : Hid (View Rp.int w2 (fun k => k < d0) ps pv) := Lib.hid ((HP.out.below (HD0.out.symm ▸ HX.out)).mono fun k h => by have := h.2; have := HD0.out; omega)
  rw [hN]
  clear hn hb2 hN hnl hb1z hb2z hx1 hx2
  go_wp2_with fail
  go_loopw [1, 29] (fun pv i wr => ∃ (done todo : List Fl) (qs : List Int), i = .int .i64 done.length ∧ names (done ++ todo) = names dk.fs ∧ crashF dk.fs ps = done ++ crashF todo qs ∧ View Rp.int wr (fun k => k < d0) qs pv ∧ qs.length ≤ 1000000 ∧ (∀ f ∈ todo, f.b.length ≤ 999999999) ∧ DAt wr (fun k => (d0 < k ∧ k < b1) ∨ b2 ≤ k) d0 { room := dk.room, fs := done ++ todo } ∧ Keep (fun k => (d0 ≤ k ∧ k < b1) ∨ b2 ≤ k) w2 wr) (fun _ i _ => N - (intOf i).toNat)
  case atStart => exact ⟨[], dk.fs, ps, rfl, rfl, rfl, HP2.out, hps, HFL.out, ⟨g1, tag1, mv1, HD2.out⟩, Keep.refl _ _⟩
  case round =>
    obtain ⟨done, todo, qs, rfl, hnm, hcr, hqv, hql, htl, ⟨gr, tr, mr, hdr⟩, hkr⟩ := hrel
    have HNM := Lib.hid hnm; have HCR := Lib.hid hcr; have HQV := Lib.hid hqv; have HTL := Lib.hid htl; have HDR := Lib.hid hdr; have HKR := Lib.hid hkr
    have hlenN : done.length + todo.length = N := by
      have := congrArg List.length hnm; rw [HN.out] at this; simpa [names] using this
    clear hnm hcr hqv htl hdr hkr
    cases todo with
    | nil =>
      have hdn : done.length = N := by simpa using hlenN
      rw [hdn]
      clear hlenN hdn
      go_wp2_with fail
      go_ret
      have hdd := HDR.out
      have hcc := HCR.out
      rw [List.append_nil] at hdd
      have hce : dk.crash ps = { room := dk.room, fs := done } := by unfold Dk.crash; rw [hcc]; simp [crashF]
      rw [hce] at hR
      exact hR _ _ ⟨rfl, ⟨gr, tr, mr, hdd.mono (fun k _ h => by omega) (fun h => by omega)⟩, HX.out.trans (HKR.out.below (by have := HX.out.size; have := HD0.out; omega) fun i hi h => by omega)⟩
    | cons f rest =>
      obtain ⟨k, hk⟩ : ∃ k, done.length = k := ⟨_, rfl⟩
      have hkN : k < N := by rw [← hlenN, ← hk]; simp
      have HLN : Hid (k + (rest.length + 1) = N) := Lib.hid (by rw [← hlenN, ← hk]; simp)
      have hfx : (names dk.fs)[k]? = some f.name := by rw [← HNM.out, ← hk]; simp [names]
      have HO := Lib.hid (HDR.out.ok.ord)
      have hlook : look (done ++ f :: rest) f.name = some f := HDR.out.ok.ord.look_mem (by simp)
      have hsy : f.sy ≤ f.b.length := HDR.out.ok.sy f (by simp)
      have hbl : f.b.length ≤ 999999999 := HTL.out f (by simp)
      obtain ⟨fb, v, hg, hfi⟩ := HDR.out.gsome hlook
      have hnz : f.name.length ≤ 1000000 := by
        have := HDR.out.ok.nam f (by simp)
        unfold badName at this
        rw [Bool.or_eq_false_iff, decide_eq_false_iff_not] at this
        omega
      obtain ⟨A', c', e, _, hget⟩ := (HNV.out.keep HKR.out (fun j h e => by omega)).open1
      rw [HN.out] at e hget
      cases e
      obtain ⟨gb, off, e', hgb, hgx⟩ := hget k hkN
      subst e'
      have d0x : wr.cell? ⟨gb, off + k, none⟩ = some (.string (ofL f.name)) := hgx k _ hfx
      clear hgx hget
      obtain ⟨X, hX⟩ : ∃ X, ofL f.name = X := ⟨_, rfl⟩
      have hXs : X.size ≤ 1000000 := by rw [← hX, ofL_size]; exact hnz
      have HXX : Hid (toL X = f.name) := Lib.hid (by rw [← hX, toL_ofL])
      rw [hX] at d0x
      have hlk := HDR.out.lookup1 hXs
      rw [HXX.out, hg] at hlk
      replace hlk : (Instr.lookup 59 (.map mr) (.string X) false).run Try.prog wr = .ok (.pointer (some ⟨fb, 0, none⟩)) wr := hlk
      have c1 := blk_cell HDR.out.blk 1
      simp only [dcells, List.getElem?_toArray, List.getElem?_cons_zero, List.getElem?_cons_succ] at c1
      have hltd := HDR.out.lt
      have hfb : fb < wr.heap.size := hfi.lt
      obtain ⟨QA, qc, rfl, hqc, hqget⟩ := HQV.out.open1
      have HQG := Lib.hid hqget
      have HFI := Lib.hid hfi; have HG := Lib.hid hg; have HL := Lib.hid hlook; have HSY := Lib.hid hsy; have HBL := Lib.hid hbl; have HK := Lib.hid hk; have HFX := Lib.hid hfx
      clear hfi hg hlook hX hfx hqget hnz hXs hlenN hsy hbl
      rw [hk]
      clear hk
      obtain ⟨n, hn⟩ : ∃ n : Nat, f.b.length - f.sy = n := ⟨_, rfl⟩
      have hn9 : n ≤ 999999999 := by have := HBL.out; omega
      have HNN := Lib.hid hn
      clear hn
      go_wp2_with fail
      refine (loose_any HFI.out HSY.out (Nat.le_trans HBL.out (by decide))).mono ?_
      rintro e w3 ⟨rfl, hb3⟩
      have HB3 := Lib.hid hb3
      rw [HNN.out]
      clear hb3 hlk c1 hltd d0x hgb hfb
      go_upto_region 11 with fail
      go_cut [49] (fun v wc => v = .bool (!(n == 0) && !qs.isEmpty) ∧ wc = w3)
      case first =>
        by_cases h0 : n = 0
        · subst h0
          go_wp2_with fail
          go_meet
          exact ⟨rfl, rfl⟩
        · have hpos : (0 : Int) < (n : Int) := by omega
          have hn0 : (n == 0) = false := by simpa using h0
          cases qs with
          | nil =>
            go_wp2_with fail
            go_meet
            exact ⟨by rw [hn0]; rfl, rfl⟩
          | cons p qs =>
            have hq : (0 : Int) < (((p :: qs).length : Nat) : Int) := by simp
            go_wp2_with fail
            go_meet
            exact ⟨by rw [hn0]; rfl, rfl⟩
      case rest =>
       obtain ⟨rfl, hwc⟩ := hcut
       rw [hwc]
       clear hwc
       go_upto_if 49 with fail
       go_cut [1, 9] (fun pv kv wc => ∃ (A : Option Addr) (c : Nat), pv = .slice A (crash1 f qs).2.length c ∧ kv = .int .i64 ((crash1 f qs).1 : Nat) ∧ View Rp.int wc (fun k => k < d0) (crash1 f qs).2 pv ∧ Below wr.heap.size wr wc)
       case first =>
        by_cases h0 : n = 0
        · have hcz := crash1_zero f qs (by rw [HNN.out]; exact h0)
          have HCZ := Lib.hid hcz
          rw [show (!(n == 0) && !qs.isEmpty) = false by rw [h0]; rfl]
          subst h0
          clear hcz
          go_wp2_with fail
          go_meet
          rw [HCZ.out]
          exact ⟨QA, qc, rfl, rfl, HQV.out.below HB3.out, HB3.out⟩
        · have hpos : (0 : Int) < (n : Int) := by omega
          cases qs with
          | nil =>
            rw [show (!(n == 0) && !([] : List Int).isEmpty) = false by simp]
            clear hqc
            go_wp2_with fail
            go_meet
            rw [crash1_nil]
            exact ⟨QA, qc, rfl, rfl, HQV.out.below HB3.out, HB3.out⟩
          | cons p qs =>
            rw [show (!(n == 0) && !(p :: qs).isEmpty) = true by simpa using h0]
            have hc1 := crash1_one f p qs (by rw [HNN.out]; exact h0)
            rw [HNN.out] at hc1
            have HC1 := Lib.hid hc1
            obtain ⟨qb, qo, rfl, hqb, hqx⟩ := HQG.out 0 (by simp)
            have HQ3 := Lib.hid (HQV.out.below HB3.out)
            have p0 : w3.cell? ⟨qb, qo, none⟩ = some (.int .i64 p) := by have := hqx 0 p rfl; rw [Nat.add_zero] at this; exact ext_cell HB3.out this
            have HDR1 := Lib.hid (View.drop HQ3.out 1 (by simp))
            obtain ⟨m, hm⟩ : ∃ m, (p :: qs).length = m := ⟨_, rfl⟩
            have hm1 : 1 ≤ m := by rw [← hm]; simp
            have hm0 : 0 < m := by omega
            have HM : Hid (qs.length = m - 1) := Lib.hid (by rw [← hm]; simp)
            have hi1 : (1 : Int) ≤ (m : Int) := by omega
            have hip : (0 : Int) < (m : Int) := by omega
            have hi2 : ((m : Int) == 0) = false := by rw [beq_eq_false_iff_ne]; omega
            rw [hm] at hqc hql HDR1
            rw [hm]
            clear hm hc1 hqx
            have hmn := Int.emod_nonneg p (show (n : Int) + 1 ≠ 0 by omega)
            have HMN : Hid ((((p % ((n : Int) + 1)).toNat : Nat) : Int) = p % ((n : Int) + 1)) := Lib.hid (by omega)
            clear hmn
            by_cases hq1 : qc = 1
            · rw [if_pos hq1] at HDR1
              obtain rfl : m = 1 := by omega
              subst hq1
              go_wp2_with fail
              refine (modulo_any p ((n : Int) + 1) (by omega) (by omega) w3).mono ?_
              rintro e w4 ⟨rfl, hw4⟩
              rw [hw4]
              clear hw4
              go_wp2_with fail
              go_meet
              rw [HC1.out]
              exact ⟨some ⟨qb, qo, none⟩, 0, by rw [HM.out], by rw [HMN.out], HDR1.out, HB3.out⟩
            · rw [if_neg hq1] at HDR1
              go_wp2_with fail
              refine (modulo_any p ((n : Int) + 1) (by omega) (by omega) w3).mono ?_
              rintro e w4 ⟨rfl, hw4⟩
              rw [hw4]
              clear hw4
              go_wp2_with fail
              go_meet
              rw [HC1.out]
              exact ⟨some ⟨qb, qo + 1, none⟩, qc - 1, by rw [HM.out], by rw [HMN.out], HDR1.out, HB3.out⟩
       case rest =>
        obtain ⟨QB, qc2, rfl, rfl, hqv, hb4⟩ := hcut
        have hkl := crash1_le f qs
        have hql2 := crash1_len f qs
        have HKL := Lib.hid hkl
        obtain ⟨m, hm⟩ : ∃ m, (crash1 f qs).1 = m := ⟨_, rfl⟩
        obtain ⟨rs, hrs⟩ : ∃ rs, (crash1 f qs).2 = rs := ⟨_, rfl⟩
        have HCF : Hid (crashF (f :: rest) qs = crashed f m :: crashF rest rs) := Lib.hid (by rw [crashF_cons, hm, hrs])
        rw [hm] at hkl
        rw [hrs] at hql2 hqv
        rw [hm, hrs]
        have HQ4 := Lib.hid hqv; have HB4 := Lib.hid hb4
        clear hm hrs hqv hb4 HKL
        have HFI4 := Lib.hid (HFI.out.below (HB4.out.mono (by have := HFI.out.lt; omega)))
        have hsz : f.sy + m ≤ f.b.length := by have := HSY.out; omega
        have HSZ := Lib.hid hsz
        have hsm : f.sy + m ≤ 1999999999 := by have := HBL.out; omega
        have c1 := blk_cell HFI4.out.blk 1
        simp only [List.getElem?_toArray, List.getElem?_cons_zero, List.getElem?_cons_succ] at c1
        have hfl4 := HFI4.out.lt
        have HC1 : Hid (wc.cell? ⟨fb, 1, none⟩ = some (.int .i64 f.sy)) := Lib.hid c1
        clear hsz c1
        go_upto_region 14 with fail
        refine wp_region_any (by kernel_rfl) ?_
        refine region_ext [(fun vv _ => vv = .pointer (some ⟨fb, 0, none⟩)), (fun vv _ => vv = .pointer (some ⟨fb, 0, none⟩)), (fun vv _ => vv = .pointer (some ⟨fb, 0, none⟩)), (fun vv _ => vv = .pointer (some ⟨fb, 0, none⟩)), (fun vv _ => vv = .pointer (some ⟨fb, 0, none⟩)), (fun vv _ => vv = .pointer (some ⟨fb, 0, none⟩)), (fun vv _ => vv = .pointer (some ⟨fb, 1, none⟩)), (fun vv _ => vv = .int .i64 f.sy), (fun vv _ => vv = .int .i64 (m : Int)), (fun vv _ => vv = .int .i64 ((f.sy : Int) + (m : Int)))]
          [[], [(0, 58)], [(1, 59)], [], [(3, 61)], [(4, 62)], [(5, 63)], [(6, 64)], [], [(7, 65), (8, 66)], []]
          [none, none, none, none, none, none, none, none, none, none, none]
          [some 58, some 59, some 60, some 61, some 62, some 63, some 64, some 65, some 66, some 67] 10 (by kernel_rfl) (by kernel_rfl) (by kernel_rfl) rfl (by kernel_rfl) ?_ ?_ ?_
        · exact ⟨fun _ _ _ _ h => h, fun _ _ _ _ h => h, fun _ _ _ _ h => h, fun _ _ _ _ h => h, fun _ _ _ _ h => h, fun _ _ _ _ h => h, fun _ _ _ _ h => h, fun _ _ _ _ h => h, fun _ _ _ _ h => h, fun _ _ _ _ h => h, trivial⟩
        · refine ⟨fun ρ wx _ hx _ => gives_move (hx (.tmp 8) (by simp)), ?_, ?_, fun ρ wx _ hx _ => gives_move (hx (.tmp 8) (by simp)), ?_, ?_, ?_, ?_, fun ρ wx _ hx _ => gives_move (hx (.tmp 9) (by simp)), ?_, trivial⟩
          · intro ρ wx hE hx hd
            replace hE := Ext.undrew hE
            have e58 : ρ (.tmp 58) = .pointer (some ⟨fb, 0, none⟩) := hd.1
            exact gives_val (G := fun vv _ => vv = .pointer (some ⟨fb, 0, none⟩)) (v := .pointer (some ⟨fb, 0, none⟩)) (by simp [execOp, e58, go_sem]) rfl
          · intro ρ wx hE hx hd
            replace hE := Ext.undrew hE
            have e59 : ρ (.tmp 59) = .pointer (some ⟨fb, 0, none⟩) := hd.1
            exact gives_val (G := fun vv _ => vv = .pointer (some ⟨fb, 0, none⟩)) (v := .pointer (some ⟨fb, 0, none⟩)) (by simp [execOp, e59, go_sem]) rfl
          · intro ρ wx hE hx hd
            replace hE := Ext.undrew hE
            have e61 : ρ (.tmp 61) = .pointer (some ⟨fb, 0, none⟩) := hd.1
            exact gives_val (G := fun vv _ => vv = .pointer (some ⟨fb, 0, none⟩)) (v := .pointer (some ⟨fb, 0, none⟩)) (by simp [execOp, e61, go_sem]) rfl
          · intro ρ wx hE hx hd
            replace hE := Ext.undrew hE
            have e62 : ρ (.tmp 62) = .pointer (some ⟨fb, 0, none⟩) := hd.1
            exact gives_val (G := fun vv _ => vv = .pointer (some ⟨fb, 0, none⟩)) (v := .pointer (some ⟨fb, 0, none⟩)) (by simp [execOp, e62, go_sem]) rfl
          · intro ρ wx hE hx hd
            replace hE := Ext.undrew hE
            have e63 : ρ (.tmp 63) = .pointer (some ⟨fb, 0, none⟩) := hd.1
            exact gives_val (G := fun vv _ => vv = .pointer (some ⟨fb, 1, none⟩)) (v := .pointer (some ⟨fb, 1, none⟩)) (by simp [execOp, e63, go_sem]) rfl
          · intro ρ wx hE hx hd
            replace hE := Ext.undrew hE
            have e64 : ρ (.tmp 64) = .pointer (some ⟨fb, 1, none⟩) := hd.1
            have hcl := ext_cell hE HC1.out
            exact gives_val (G := fun vv _ => vv = .int .i64 f.sy) (v := .int .i64 f.sy) (by simp [execOp, e64, hcl, go_sem]) rfl
          · intro ρ wx hE hx hd
            replace hE := Ext.undrew hE
            have e65 : ρ (.tmp 65) = .int .i64 f.sy := hd.1
            have e66 : ρ (.tmp 66) = .int .i64 (m : Int) := hd.2.1
            exact gives_val (G := fun vv _ => vv = .int .i64 ((f.sy : Int) + (m : Int))) (v := .int .i64 ((f.sy : Int) + (m : Int))) (by simp [execOp, e65, e66, go_sem, show IntKind.i64.wrap ((f.sy : Int) + (m : Int)) = (f.sy : Int) + (m : Int) by rw [IntKind.wrap_i64]; omega]) rfl
        intro wx hE
        refine fun v58 (e58 : v58 = .pointer (some ⟨fb, 0, none⟩)) => ?_
        refine fun v59 (e59 : v59 = .pointer (some ⟨fb, 0, none⟩)) => ?_
        refine fun v60 (e60 : v60 = .pointer (some ⟨fb, 0, none⟩)) => ?_
        refine fun v61 (e61 : v61 = .pointer (some ⟨fb, 0, none⟩)) => ?_
        refine fun v62 (e62 : v62 = .pointer (some ⟨fb, 0, none⟩)) => ?_
        refine fun v63 (e63 : v63 = .pointer (some ⟨fb, 0, none⟩)) => ?_
        refine fun v64 (e64 : v64 = .pointer (some ⟨fb, 1, none⟩)) => ?_
        refine fun v65 (e65 : v65 = .int .i64 f.sy) => ?_
        refine fun v66 (e66 : v66 = .int .i64 (m : Int)) => ?_
        refine fun v67 (e67 : v67 = .int .i64 ((f.sy : Int) + (m : Int))) => ?_
        subst e58 e59 e60 e61 e62 e63 e64 e65 e66 e67
        refine rest_nil ?_
        simp only [List.drop_succ_cons, List.drop_zero, Act.put, List.setIfInBounds_toArray, List.set_cons_zero, List.set_cons_succ]
        have HE := Lib.hid hE
        have HX4 : Hid (Below wr.heap.size wr wx) := Lib.hid (HB4.out.trans (hE.mono HB4.out.size))
        have HF5 := Lib.hid (HFI4.out.below hE)
        clear hfl4
        go_wp2_with fail
        rw [show (f.sy : Int) + (m : Int) = ((f.sy + m : Nat) : Int) by omega]
        refine (cutf_any HF5.out (f.sy + m) HSZ.out HSY.out).mono ?_
        rintro e w5 ⟨rfl, v5, hf5, hk5⟩
        have HF6 := Lib.hid hf5; have HK5 := Lib.hid hk5
        clear hf5 hk5
        go_wp2_with fail
        refine (sync_any HF6.out).mono ?_
        rintro e w6 ⟨rfl, hf6, hk6⟩
        have HF7 := Lib.hid hf6; have HK6 := Lib.hid (keep_then HK5.out hk6)
        clear hf6 hk6
        have hfe : ({ name := f.name, b := f.b.take (f.sy + m), sy := (f.b.take (f.sy + m)).length } : Fl) = crashed f m := by
          unfold crashed; rw [List.length_take, Nat.min_eq_left HSZ.out]
        have HF8 : Hid (FileIn w6 (fun k => ((d0 < k ∧ k < b1) ∨ b2 ≤ k) ∧ tr k = some f.name) fb (crashed f m) v5) := Lib.hid (hfe ▸ HF7.out)
        clear hfe HF7
        have hds := (HDR.out.below HX4.out).setFile (f := f) (f' := crashed f m) HL.out HG.out
          (HK6.out.mono fun k _ e => by rw [e]; exact HFI.out.inF) (HF8.out.mono fun k _ h => .inl h) (by unfold crashed; rw [List.length_take, Nat.min_eq_left HSZ.out]; exact Nat.le_refl _)
        rw [show ({ room := dk.room, fs := done ++ f :: rest } : Dk).fs = done ++ f :: rest from rfl, setF_mid (f' := crashed f m) HO.out rfl] at hds
        have HDS := Lib.hid hds
        have hws := HKR.out.size
        have hwx := HX4.out.size
        clear hds
        go_wp2_with fail
        go_roundw
        case rel =>
          refine ⟨done ++ [crashed f m], rest, rs, by rw [List.length_append, HK.out]; go_num, ?_, ?_, (HQ4.out.below HE.out).keep HK6.out (fun k h e => ?_), by omega, fun x hx => HTL.out x (List.mem_cons_of_mem _ hx), ?_, (keep_then HKR.out (Keep.old HX4.out)).trans HK6.out fun j hj e => ?_⟩
          · rw [List.append_assoc]
            have := HNM.out
            simpa [names, crashed] using this
          · rw [HCR.out, HCF.out, List.append_assoc]; rfl
          · have := HFI.out.inF.1
            rw [← e] at this
            omega
          · rw [List.append_assoc]
            exact ⟨_, _, _, HDS.out.mono (fun j _ h => by
              rcases h with h | h
              · exact h
              · exact .inr (by have := HZ.out.2; omega)) fun h => by omega⟩
          · have := HFI.out.inF.1
            rw [← e] at this
            rcases this with h | h
            · exact .inl ⟨by omega, h.2⟩
            · exact .inr h
        case measure => simp [intOf]; omega
end
end Go.Proofs.Ytlfcbhagbdonhaa.Asc

/-
  Contracts: a disk with copies of all files.
  Lengths within the rows' own reach.
-/
import Derived.Test.YtlfcbhagbdonhaaDkJ
namespace Go.Proofs.Ytlfcbhagbdonhaa.Asc
set_option linter.unusedSimpArgs false
set_option linter.unusedVariables false
open Go Go.RowKit Go.Proofs.Ytlfcbhagbdonhaa.Pb

def keepF (fs : List Fl) (p : Tx → Bool) : List Fl := fs.filter (fun f => p f.name)
theorem Ord.keepf {fs : List Fl} (h : Ord fs) (p : Tx → Bool) : Ord (keepF fs p) := List.Pairwise.sublist (List.Sublist.map _ List.filter_sublist) h
theorem mem_keepF {fs : List Fl} {p : Tx → Bool} {x : Fl} : x ∈ keepF fs p ↔ x ∈ fs ∧ p x.name = true := by unfold keepF; simp
theorem look_keepF {fs : List Fl} (h : Ord fs) (p : Tx → Bool) (n : Tx) : look (keepF fs p) n = if p n then look fs n else none := by
  refine (h.keepf p).look_eq (fun f hf => ?_) fun hf => ?_
  · split at hf
    · rename_i hp
      obtain ⟨h1, h2⟩ := look_some hf
      exact ⟨mem_keepF.2 ⟨h1, by rw [h2]; exact hp⟩, h2⟩
    · cases hf
  · intro hm
    obtain ⟨y, hy, rfl⟩ := List.mem_map.1 hm
    obtain ⟨h1, h2⟩ := mem_keepF.1 hy
    rw [if_pos h2] at hf
    exact look_none hf y h1 rfl
theorem keepF_all (fs : List Fl) (p : Tx → Bool) (h : ∀ n, p n = true) : keepF fs p = fs := by
  unfold keepF; rw [List.filter_eq_self]; exact fun f _ => h f.name
theorem keepF_no (fs : List Fl) (p : Tx → Bool) (h : ∀ f ∈ fs, p f.name = false) : keepF fs p = [] := by
  unfold keepF; rw [List.filter_eq_nil_iff]; exact fun f hf => by rw [h f hf]; decide
/-- one file more is done -/
theorem keepF_step {fs : List Fl} (h : Ord fs) (left : Tx → Bool) (f : Fl) (hf : look fs f.name = some f) (hl : left f.name = true) :
    keepF fs (fun z => !(left z && z != f.name)) = putF (keepF fs (fun z => !left z)) f ∧ look (keepF fs (fun z => !left z)) f.name = none := by
  have hn : look (keepF fs (fun z => !left z)) f.name = none := by rw [look_keepF h, hl]; rfl
  refine ⟨(h.keepf _).ext ((h.keepf _).put f hn) fun n => ?_, hn⟩
  rw [look_keepF h, (h.keepf _).look_put f hn, look_keepF h]
  by_cases e : n = f.name
  · rw [if_pos e, e, hf]; simp
  · rw [if_neg e]
    have : (n != f.name) = true := by simpa using e
    rw [this, Bool.and_true]
theorem DIn.empty {w : World} {S : Nat → Prop} {d mb : Nat} {dk : Dk} (hb : w.heap[d]? = some (.cells (dcells dk (some mb)).toArray 61 (0, 0))) (hm : MapAt w mb (fun _ => none) 0) (h1 : S mb) (h2 : ¬ S d) (hl : ∀ v, dk.lim = some v → v ≤ 9223372036854775807) :
    DIn w S d { dk with fs := [] } (fun _ => none) (fun _ => none) (some mb) :=
  ⟨hb, (fun e => (by cases e)), fun m e => (by cases e; exact ⟨hm, h1, rfl⟩), fun f hf => (by simp at hf), fun n h => (h rfl).elim, h2, ⟨List.Pairwise.nil, (by simp), (by simp), hl⟩⟩

set_option maxHeartbeats 4000000 in
set_option maxRecDepth 20000 in
theorem copied_any {w : World} {S : Nat → Prop} {d : Nat} {dk : Dk} {g : Tx → Option Nat} {tag : Nat → Option Tx} {mv : Option Nat} (h : DIn w S d dk g tag mv) (hlen : dk.fs.length ≤ 1000) (hfl : ∀ f ∈ dk.fs, f.b.length ≤ 140737488351232) :
    Calls Try.prog 33 #[.pointer (some ⟨d, 0, none⟩)] w fun e w' => e = .returned (.pointer (some ⟨w.heap.size, 0, none⟩)) ∧ DAt w' (fun k => w.heap.size < k) w.heap.size dk ∧ Below w.heap.size w w' := by
  refine calls_gen fun R hR => ?_
  have H := Lib.hid h; have HFL := Lib.hid hfl
  have hlt := h.lt
  have HDL : Hid (d < w.heap.size) := Lib.hid hlt
  clear h hfl
  obtain ⟨c0, c1, c2, c3, c4⟩ : w.cell? ⟨d, 0, none⟩ = some (.int .i64 dk.room) ∧ w.cell? ⟨d, 1, none⟩ = some (.map mv) ∧ w.cell? ⟨d, 2, none⟩ = some (.int .i64 dk.ops) ∧ w.cell? ⟨d, 3, none⟩ = some (.bool dk.lim.isSome) ∧ w.cell? ⟨d, 4, none⟩ = some (.int .i64 (leftV dk)) :=
    ⟨blk_cell H.out.blk 0, blk_cell H.out.blk 1, blk_cell H.out.blk 2, blk_cell H.out.blk 3, blk_cell H.out.blk 4⟩
  obtain ⟨d2, hd2⟩ : ∃ d2, w.heap.size = d2 := ⟨_, rfl⟩
  obtain ⟨w1, hw1⟩ : ∃ w1, w.alloc (.cells #[.int .i64 dk.room, .map mv, .int .i64 dk.ops, .bool dk.lim.isSome, .int .i64 (leftV dk)] 61) = w1 := ⟨_, rfl⟩
  have HW1 := Lib.hid hw1
  have HB1 : Hid (Below d2 w w1) := Lib.hid (hd2 ▸ hw1 ▸ below_new w _)
  have HG1 : Hid (w1.heap[d2]? = some (.cells (dcells dk mv).toArray 61 (0, 0))) := Lib.hid (hd2 ▸ hw1 ▸ blk_new w (.cells (dcells dk mv).toArray 61))
  have HZ1 : Hid (w1.heap.size = d2 + 1) := Lib.hid (by rw [← hw1, ← hd2]; simp)
  clear hw1
  go_enter Try.func33, Try.ntmps33
  go_upto_region 2 with fail
  rw [HW1.out]
  clear c0 c1 c2 c3 c4 hlt
  obtain ⟨mb2, hmb2⟩ : ∃ m, w1.heap.size = m := ⟨_, rfl⟩
  obtain ⟨w2, hw2⟩ : ∃ w2, (w1.setCell ⟨d2, 1, none⟩ (.map (some mb2))).alloc (.map #[] 0) = w2 := ⟨_, rfl⟩
  have hbd : w2.heap[d2]? = some (.cells (dcells dk (some mb2)).toArray 61 (0, 0)) := by
    have h2 := blk_set HG1.out 1 (.map (some mb2))
    have h1 := (Below.heap_alloc (w1.setCell ⟨d2, 1, none⟩ (.map (some mb2))) (.map #[] 0) d2 (by rw [size_setCell]; exact blk_lt HG1.out)).trans h2
    rw [hw2] at h1; exact h1
  have hmp : MapAt w2 mb2 (fun _ => none) 0 := by
    have h1 := MapAt.made (w1.setCell ⟨d2, 1, none⟩ (.map (some mb2)))
    rw [size_setCell, hmb2, hw2] at h1
    exact h1
  have hz2 : w2.heap.size = d2 + 2 := by rw [← hw2]; simp only [World.size_alloc, size_setCell]; rw [HZ1.out]
  have hm2 : mb2 = d2 + 1 := by rw [← hmb2, HZ1.out]
  have HD2 : Hid (DIn w2 (fun k => d2 < k ∧ k ≠ d2 + 2) d2 { dk with fs := [] } (fun _ => none) (fun _ => none) (some mb2)) := Lib.hid (DIn.empty hbd hmp ⟨by omega, by omega⟩ (fun h => by omega) H.out.ok.lim)
  have hk12 : Keep (fun k => k = d2) w1 w2 := hw2 ▸ ((Keep.refl (fun k => k = d2) w1).set (p := ⟨d2, 1, none⟩) rfl (.map (some mb2))).new (.map #[] 0)
  have HB2 : Hid (Below d2 w w2) := Lib.hid (HB1.out.trans (hk12.below (by have := HZ1.out; omega) fun i hi e => by omega))
  have HO2 : Hid (DIn w2 S d dk g tag mv) := Lib.hid (H.out.below (hd2.symm ▸ HB2.out))
  have HZ2 := Lib.hid hz2; have HM2 := Lib.hid hm2; have HW2 := Lib.hid hw2; have HMB := Lib.hid hmb2; have HD := Lib.hid hd2
  have c1 := blk_cell HG1.out 1
  have f1 := blk_free HG1.out 1
  have hl1 := blk_lt HG1.out
  simp only [dcells, List.getElem?_toArray, List.getElem?_cons_zero, List.getElem?_cons_succ] at c1
  clear hbd hmp hz2 hm2 hk12 hw2 hmb2
  have hmm := @run_makeMap Try.prog
  go_upto_region 3 with fail
  clear hmm c1 f1 hl1
  rw [HMB.out, HW2.out]
  have c1 := blk_cell HO2.out.blk 1
  simp only [dcells, List.getElem?_toArray, List.getElem?_cons_zero, List.getElem?_cons_succ] at c1
  have hlt2 := HO2.out.lt
  cases mv with
  | none =>
    have hrg := run_range_nilMap (P := Try.prog) w2 59 9 65 Try.underlying59
    have hnx : ∀ ty, (Instr.next (.pointer (some ⟨w2.heap.size, 0, none⟩)) false ty).run Try.prog (w2.alloc (.mapIter none 0 #[] 0)) = _ := fun ty => run_next_nilMap w2 ty 0 0 #[]
    go_wp2_with fail
    refine wp_loop_rounds 1 ?_
    rw [rounds_succ]
    go_wp2_with fail
    go_ret
    have hb3 := below_new w2 (.mapIter none 0 #[] 0)
    have hd3 := HD2.out.below hb3
    have he : dk.fs = [] := (H.out.nomap rfl).1
    rw [HD.out] at hR
    refine hR _ _ ⟨rfl, ⟨fun _ => none, fun _ => none, some mb2, ?_⟩, HB2.out.trans (hb3.mono (by have := HZ2.out; omega))⟩
    obtain ⟨room, fs, ops, lim⟩ := dk
    dsimp only at he hd3
    subst he
    exact hd3.mono (fun k _ h => h.1) (fun h => by omega)
  | some mb =>
    obtain ⟨w3, hrun, hra, hk3, hs3⟩ := (HO2.out.map mb rfl).1.range
    rw [HZ2.out] at hrun hra hs3
    have HRA := Lib.hid hra; have HK3 := Lib.hid hk3; have HS3 := Lib.hid hs3
    have HMX : Hid (mb < d2) := Lib.hid (by have := (H.out.map mb rfl).1.lt; omega)
    have HGI := Lib.hid H.out.hasg
    have HD3 : Hid (DIn w3 (fun k => d2 < k ∧ k ≠ d2 + 2) d2 { dk with fs := [] } (fun _ => none) (fun _ => none) (some mb2)) := Lib.hid (HD2.out.keep hk3 fun _ _ _ h => h)
    clear hra hk3 hs3
    go_wp2_with fail
    clear hrun c1 hlt2
    go_loopw [] (fun wr => ∃ left cnt g' tag', RangeAt wr mb (d2 + 2) g dk.fs.length left cnt ∧ DIn wr (fun k => d2 < k ∧ k ≠ d2 + 2) d2 { dk with fs := keepF dk.fs (fun z => !left z) } g' tag' (some mb2) ∧ Below d2 w wr ∧ (∀ s, left s = true → (g s).isSome = true)) (fun wr => wr.rangeLeft mb (d2 + 2))
    case atStart =>
      refine ⟨_, _, fun _ => none, fun _ => none, HRA.out, ?_, HB2.out.trans (HK3.out.below (by have := HZ2.out; omega) fun _ _ h => h), fun s h => h⟩
      rw [keepF_no]
      · exact HD3.out
      · intro f hf
        show (!(g f.name).isSome) = false
        rw [HGI.out, H.out.ok.ord.look_mem hf]; rfl
    case round =>
      obtain ⟨left, cnt, g', tag', hrg, hdn, hb, hg⟩ := hrel
      have HRG := Lib.hid hrg; have HDN := Lib.hid hdn; have HB := Lib.hid hb; have HGL := Lib.hid hg
      rcases hrg.next hg 0 with ⟨h0, hl, hrun⟩ | ⟨T, fb, w5, cnt5, hlT, hgT, hrun, hrg5, hlt5, hk5, hen⟩
      · have hka : keepF dk.fs (fun z => !left z) = dk.fs := keepF_all _ _ fun n => by rw [hl]; rfl
        rw [hka] at HDN
        clear hrg hdn hb hg h0 hl hka
        go_wp2_with fail
        go_ret
        rw [HD.out] at hR
        exact hR _ _ ⟨rfl, ⟨_, _, _, HDN.out.mono (fun k _ h => h.1) fun h => by omega⟩, HB.out⟩
      · have hsm : (look dk.fs (toL T)).isSome = true := by rw [← HGI.out, hgT]; rfl
        obtain ⟨f, hf⟩ := Option.isSome_iff_exists.1 hsm
        obtain ⟨fb', v, hgf, hfi⟩ := H.out.gsome hf
        have hfn : f.name = toL T := (look_some hf).2
        have hfb : fb' = fb := by rw [hgT] at hgf; exact (Option.some.inj hgf).symm
        rw [hfb] at hfi
        obtain ⟨VA, vc, rfl, hvc⟩ := hfi.own.slice
        have HFL1 := Lib.hid (HFL.out f (look_some hf).1)
        have HNM := Lib.hid (H.out.ok.nam f (look_some hf).1)
        have HSY := Lib.hid (H.out.ok.sy f (look_some hf).1)
        obtain ⟨hks, hkn⟩ := keepF_step H.out.ok.ord left f (by rw [hfn]; exact hf) (by rw [hfn]; exact hlT)
        rw [hfn] at hks hkn
        have HKS := Lib.hid hks; have HKN := Lib.hid hkn
        have hT : T.size ≤ 1000000 := by
          have := HNM.out
          unfold badName at this
          rw [Bool.or_eq_false_iff, decide_eq_false_iff_not, hfn, toL_len] at this
          omega
        have hbw5 : Below d2 w w5 := hb.trans (hk5.below (by have := hdn.lt; omega) fun i hi e => by omega)
        have HFI : Hid (FileIn w5 (fun k => S k ∧ tag k = some (toL T)) fb f (.slice VA f.b.length vc)) := Lib.hid (hfi.below (HD.out.symm ▸ hbw5))
        have HDN5 : Hid (DIn w5 (fun k => d2 < k ∧ k ≠ d2 + 2) d2 { dk with fs := keepF dk.fs (fun z => !left z) } g' tag' (some mb2)) := Lib.hid (hdn.keep hk5 fun k _ h e => by
          rcases h with h | h
          · exact h.2 e
          · omega)
        have HRG5 := Lib.hid hrg5; have HBW5 := Lib.hid hbw5; have HLT5 := Lib.hid hlt5; have HFN := Lib.hid hfn
        have HC1 : Hid (w5.cell? ⟨d2, 1, none⟩ = some (.map (some mb2))) := Lib.hid (blk_cell HDN5.out.blk 1)
        have HC2 : Hid (w5.cell? ⟨fb, 0, none⟩ = some (.slice VA f.b.length vc)) := Lib.hid (blk_cell HFI.out.blk 0)
        have HC3 : Hid (w5.cell? ⟨fb, 1, none⟩ = some (.int .i64 f.sy)) := Lib.hid (blk_cell HFI.out.blk 1)
        clear hrg hdn hb hg hrg5 hk5 hfi hgf hf hgT hlT hsm hfn hfb hlt5 hks hkn hbw5
        go_upto_region 6 with fail
        clear hrun hen
        obtain ⟨n, hn⟩ : ∃ n, f.b.length = n := ⟨_, rfl⟩
        have HN := Lib.hid hn
        rw [hn] at HC2 hvc
        clear hn
        refine wp_region_any (by kernel_rfl) ?_
        refine region_ext [(fun vv _ => vv = .pointer (some ⟨d2, 1, none⟩)), (fun vv _ => vv = .map (some mb2)), (fun vv _ => vv = .string T), (fun vv _ => vv = .pointer (some ⟨fb, 0, none⟩)), (fun vv _ => vv = .pointer (some ⟨fb, 0, none⟩)), (fun vv _ => vv = .pointer (some ⟨fb, 0, none⟩)), (fun vv _ => vv = .pointer (some ⟨fb, 0, none⟩)), (fun vv _ => vv = .slice VA n vc), (fun v w => ∃ A c, v = .slice A n c ∧ Own Rp.u8 5 w (fun k => w5.heap.size ≤ k) f.b v), (fun vv _ => vv = .pointer (some ⟨fb, 0, none⟩)), (fun vv _ => vv = .pointer (some ⟨fb, 0, none⟩)), (fun vv _ => vv = .pointer (some ⟨fb, 0, none⟩)), (fun vv _ => vv = .pointer (some ⟨fb, 1, none⟩)), (fun vv _ => vv = .int .i64 f.sy), (fun v w => ∃ A c, v = .agg #[.slice A n c, .int .i64 f.sy] ∧ Own Rp.u8 5 w (fun k => w5.heap.size ≤ k) f.b (.slice A n c)), (fun v w => ∃ A c, v = .agg #[.slice A n c, .int .i64 f.sy] ∧ Own Rp.u8 5 w (fun k => w5.heap.size ≤ k) f.b (.slice A n c)), (fun v w => ∃ b A c, v = .pointer (some ⟨b, 0, none⟩) ∧ w5.heap.size ≤ b ∧ w.heap[b]? = some (.cells #[.slice A n c, .int .i64 f.sy] 70 (0, 0)) ∧ Own Rp.u8 5 w (fun k => w5.heap.size ≤ k) f.b (.slice A n c) ∧ ¬ (Value.slice A n c).ownBlock = some b)]
          [[], [(0, 21)], [], [], [(3, 24)], [(4, 25)], [(5, 26)], [(6, 27)], [(7, 28)], [], [(9, 30)], [(10, 31)], [(11, 32)], [(12, 33)], [(8, 29), (13, 34)], [(14, 35)], [(15, 36)], []]
          [none, none, none, none, none, none, none, none, none, none, none, none, none, none, none, none, none, none]
          [some 21, some 22, some 23, some 24, some 25, some 26, some 27, some 28, some 29, some 30, some 31, some 32, some 33, some 34, some 35, some 36, some 37] 17 (by kernel_rfl) (by kernel_rfl) (by kernel_rfl) rfl (by kernel_rfl) ?_ ?_ ?_
        · exact ⟨fun _ _ _ _ h => h, fun _ _ _ _ h => h, fun _ _ _ _ h => h, fun _ _ _ _ h => h, fun _ _ _ _ h => h, fun _ _ _ _ h => h, fun _ _ _ _ h => h, fun _ _ _ _ h => h, (fun _ _ _ k ⟨A, c, h1, h2⟩ => ⟨A, c, h1, h2.below k⟩), fun _ _ _ _ h => h, fun _ _ _ _ h => h, fun _ _ _ _ h => h, fun _ _ _ _ h => h, fun _ _ _ _ h => h, (fun _ _ _ k ⟨A, c, h1, h2⟩ => ⟨A, c, h1, h2.below k⟩), (fun _ _ _ k ⟨A, c, h1, h2⟩ => ⟨A, c, h1, h2.below k⟩), (fun _ _ _ k ⟨b, A, c, h1, h2, h3, h4, h5⟩ => ⟨b, A, c, h1, h2, (k.block b (blk_lt h3)).trans h3, h4.below k, h5⟩), trivial⟩
        · refine ⟨?_, ?_, fun ρ wx _ hx _ => gives_move (hx (.tmp 4) (by simp)), fun ρ wx _ hx _ => gives_move (hx (.tmp 5) (by simp)), ?_, ?_, ?_, ?_, ?_, fun ρ wx _ hx _ => gives_move (hx (.tmp 5) (by simp)), ?_, ?_, ?_, ?_, ?_, ?_, ?_, trivial⟩
          · intro ρ wx hE hx hd
            replace hE := Ext.undrew hE
            have e3 : ρ (.tmp 3) = .pointer (some ⟨d2, 0, none⟩) := hx (.tmp 3) (by simp)
            exact gives_val (G := fun vv _ => vv = .pointer (some ⟨d2, 1, none⟩)) (v := .pointer (some ⟨d2, 1, none⟩)) (by simp [execOp, e3, go_sem]) rfl
          · intro ρ wx hE hx hd
            replace hE := Ext.undrew hE
            have e21 : ρ (.tmp 21) = .pointer (some ⟨d2, 1, none⟩) := hd.1
            have hcl := ext_cell hE HC1.out
            exact gives_val (G := fun vv _ => vv = .map (some mb2)) (v := .map (some mb2)) (by simp [execOp, e21, hcl, go_sem]) rfl
          · intro ρ wx hE hx hd
            replace hE := Ext.undrew hE
            have e24 : ρ (.tmp 24) = .pointer (some ⟨fb, 0, none⟩) := hd.1
            exact gives_val (G := fun vv _ => vv = .pointer (some ⟨fb, 0, none⟩)) (v := .pointer (some ⟨fb, 0, none⟩)) (by simp [execOp, e24, go_sem]) rfl
          · intro ρ wx hE hx hd
            replace hE := Ext.undrew hE
            have e25 : ρ (.tmp 25) = .pointer (some ⟨fb, 0, none⟩) := hd.1
            exact gives_val (G := fun vv _ => vv = .pointer (some ⟨fb, 0, none⟩)) (v := .pointer (some ⟨fb, 0, none⟩)) (by simp [execOp, e25, go_sem]) rfl
          · intro ρ wx hE hx hd
            replace hE := Ext.undrew hE
            have e26 : ρ (.tmp 26) = .pointer (some ⟨fb, 0, none⟩) := hd.1
            exact gives_val (G := fun vv _ => vv = .pointer (some ⟨fb, 0, none⟩)) (v := .pointer (some ⟨fb, 0, none⟩)) (by simp [execOp, e26, go_sem]) rfl
          · intro ρ wx hE hx hd
            replace hE := Ext.undrew hE
            have e27 : ρ (.tmp 27) = .pointer (some ⟨fb, 0, none⟩) := hd.1
            have hcl := ext_cell hE HC2.out
            exact gives_val (G := fun vv _ => vv = .slice VA n vc) (v := .slice VA n vc) (by simp [execOp, e27, hcl, go_sem]) rfl
          · intro ρ wx hE hx hd
            replace hE := Ext.undrew hE
            have e28 : ρ (.tmp 28) = .slice VA n vc := hd.1
            have hf : ∀ f, ρ (.func f) = .func (.func f) #[] #[] := fun f => (hx (.func f) (by simp)).trans rfl
            exact gives_call (G := fun v w => ∃ A c, v = .slice A n c ∧ Own Rp.u8 5 w (fun k => w5.heap.size ≤ k) f.b v) (by simp [execOp, e28, hf, go_sem] <;> first | exact ⟨rfl, rfl⟩ | exact rfl) ((clone_any f.b (.slice VA n vc) _ wx (by have h := (HFI.out.below hE).own.view; rw [HN.out] at h; exact h) HFL1.out).mono fun e w' ⟨u, h1, h2, h3⟩ => by obtain ⟨A, c, h4, _⟩ := h2.slice; exact ⟨u, h1, h3, A, c, by rw [h4, HN.out], h2.mono fun k h => Nat.le_trans hE.size h⟩)
          · intro ρ wx hE hx hd
            replace hE := Ext.undrew hE
            have e30 : ρ (.tmp 30) = .pointer (some ⟨fb, 0, none⟩) := hd.1
            exact gives_val (G := fun vv _ => vv = .pointer (some ⟨fb, 0, none⟩)) (v := .pointer (some ⟨fb, 0, none⟩)) (by simp [execOp, e30, go_sem]) rfl
          · intro ρ wx hE hx hd
            replace hE := Ext.undrew hE
            have e31 : ρ (.tmp 31) = .pointer (some ⟨fb, 0, none⟩) := hd.1
            exact gives_val (G := fun vv _ => vv = .pointer (some ⟨fb, 0, none⟩)) (v := .pointer (some ⟨fb, 0, none⟩)) (by simp [execOp, e31, go_sem]) rfl
          · intro ρ wx hE hx hd
            replace hE := Ext.undrew hE
            have e32 : ρ (.tmp 32) = .pointer (some ⟨fb, 0, none⟩) := hd.1
            exact gives_val (G := fun vv _ => vv = .pointer (some ⟨fb, 1, none⟩)) (v := .pointer (some ⟨fb, 1, none⟩)) (by simp [execOp, e32, go_sem]) rfl
          · intro ρ wx hE hx hd
            replace hE := Ext.undrew hE
            have e33 : ρ (.tmp 33) = .pointer (some ⟨fb, 1, none⟩) := hd.1
            have hcl := ext_cell hE HC3.out
            exact gives_val (G := fun vv _ => vv = .int .i64 f.sy) (v := .int .i64 f.sy) (by simp [execOp, e33, hcl, go_sem]) rfl
          · intro ρ wx hE hx hd
            replace hE := Ext.undrew hE
            have e29 := hd.1
            have e34 : ρ (.tmp 34) = .int .i64 f.sy := hd.2.1
            obtain ⟨A, c, h1, h2⟩ := e29; rw [h1] at h2; exact gives_val (G := fun v w => ∃ A c, v = .agg #[.slice A n c, .int .i64 f.sy] ∧ Own Rp.u8 5 w (fun k => w5.heap.size ≤ k) f.b (.slice A n c)) (v := .agg #[.slice A n c, .int .i64 f.sy]) (by simp [execOp, h1, e34, go_sem]) ⟨A, c, rfl, h2⟩
          · intro ρ wx hE hx hd
            replace hE := Ext.undrew hE
            have e35 := hd.1
            obtain ⟨A, c, h1, h2⟩ := e35; exact gives_val (G := fun v w => ∃ A c, v = .agg #[.slice A n c, .int .i64 f.sy] ∧ Own Rp.u8 5 w (fun k => w5.heap.size ≤ k) f.b (.slice A n c)) (v := .agg #[.slice A n c, .int .i64 f.sy]) (by simp [execOp, h1, go_sem]) ⟨A, c, rfl, h2⟩
          · intro ρ wx hE hx hd
            replace hE := Ext.undrew hE
            have e36 := hd.1
            obtain ⟨A, c, h1, h2⟩ := e36; exact gives_new (G := fun v w => ∃ b A c, v = .pointer (some ⟨b, 0, none⟩) ∧ w5.heap.size ≤ b ∧ w.heap[b]? = some (.cells #[.slice A n c, .int .i64 f.sy] 70 (0, 0)) ∧ Own Rp.u8 5 w (fun k => w5.heap.size ≤ k) f.b (.slice A n c) ∧ ¬ (Value.slice A n c).ownBlock = some b) (v := .pointer (some ⟨wx.heap.size, 0, none⟩)) (w' := wx.alloc (.cells #[.slice A n c, .int .i64 f.sy] 70)) (by simp [execOp, h1, go_sem]) (below_new wx _) ⟨wx.heap.size, A, c, rfl, hE.size, blk_new wx _, h2.alloc _, fun e => by have := own_lt2 h2 e; omega⟩
        intro wx hE
        refine fun v21 (e21 : v21 = .pointer (some ⟨d2, 1, none⟩)) => ?_
        refine fun v22 (e22 : v22 = .map (some mb2)) => ?_
        refine fun v23 (e23 : v23 = .string T) => ?_
        refine fun v24 (e24 : v24 = .pointer (some ⟨fb, 0, none⟩)) => ?_
        refine fun v25 (e25 : v25 = .pointer (some ⟨fb, 0, none⟩)) => ?_
        refine fun v26 (e26 : v26 = .pointer (some ⟨fb, 0, none⟩)) => ?_
        refine fun v27 (e27 : v27 = .pointer (some ⟨fb, 0, none⟩)) => ?_
        refine fun v28 (e28 : v28 = .slice VA n vc) => ?_
        refine fun v29 e29 => ?_
        refine fun v30 (e30 : v30 = .pointer (some ⟨fb, 0, none⟩)) => ?_
        refine fun v31 (e31 : v31 = .pointer (some ⟨fb, 0, none⟩)) => ?_
        refine fun v32 (e32 : v32 = .pointer (some ⟨fb, 0, none⟩)) => ?_
        refine fun v33 (e33 : v33 = .pointer (some ⟨fb, 1, none⟩)) => ?_
        refine fun v34 (e34 : v34 = .int .i64 f.sy) => ?_
        refine fun v35 e35 => ?_
        refine fun v36 e36 => ?_
        refine fun v37 e37 => ?_
        subst e21 e22 e23 e24 e25 e26 e27 e28 e30 e31 e32 e33 e34
        refine rest_nil ?_
        simp only [List.drop_succ_cons, List.drop_zero, Act.put, List.setIfInBounds_toArray, List.set_cons_zero, List.set_cons_succ]
        obtain ⟨nb, NA, nc, rfl, hnb, hng, hno, hne⟩ := e37
        clear e29 e35 e36
        have hr5 := HRG5.out.lt
        have HDX := Lib.hid ((HDN5.out.mono (S' := fun k => (d2 < k ∧ k ≠ d2 + 2) ∧ k < w5.heap.size) (fun k hk h => ⟨h, hk⟩) (fun h => by omega)).below hE)
        obtain ⟨hmx, hsx, htx⟩ := HDX.out.map mb2 rfl
        have hkl : (keepF dk.fs (fun z => !left z)).length ≤ 1000 := Nat.le_trans (List.length_filter_le _ _) hlen
        obtain ⟨w7, hrun7, hm7, ht7⟩ := hmx.store (by show (keepF dk.fs (fun z => !left z)).length < 1000000; omega) hT nb
        have hgn : g' (toL T) = none := HDX.out.gnone HKN.out
        rw [hgn] at hm7
        replace hm7 : MapAt w7 mb2 (upd g' (toL T) (some nb)) ((keepF dk.fs (fun z => !left z)).length + 1) := hm7
        have hk7 := turned_keep ht7
        have hmn : mb2 < w5.heap.size := hsx.2
        have hgw7 := hk7.blk hng (by omega)
        have hF : ∀ k, (Value.slice NA n nc).ownBlock = some k → w5.heap.size ≤ k := by
          obtain ⟨_, _, h2, _⟩ := hno; exact h2
        have hfn := HFN.out
        have hds := HDX.out.addFile (f := f) (fb := nb) (v := .slice NA n nc) (S' := fun k => d2 < k ∧ k ≠ d2 + 2) (tag' := fun k => if w5.heap.size ≤ k then some (toL T) else tag' k)
          (by rw [hfn]; exact HKN.out) (hk7.mono fun _ _ h => .inl h) (by rw [hfn]; exact hm7)
          ⟨hgw7, (own_self hno).keep hk7 fun k hk e => (by have := hF k hk; omega), ⟨by omega, by rw [if_pos hnb, hfn]⟩, fun k hk => ⟨⟨by have := hF k hk; omega, by rw [if_pos (hF k hk), hfn]⟩, fun e => hne (e ▸ hk)⟩⟩
          (fun k h => h.1) (fun h => by omega) (fun k h _ => if_neg (by omega)) (by rw [if_neg (by omega)]; exact htx) HSY.out HNM.out
        rw [hfn] at hds
        have HDS := Lib.hid hds
        have HR7 : Hid (RangeAt w7 mb (d2 + 2) g dk.fs.length (fun z => left z && z != toL T) cnt5) := Lib.hid ((HRG5.out.move (hE.block mb (by have := HMX.out; omega)) (hE.block (d2 + 2) hr5)).move (hk7.block mb (by have := HMX.out; have := hE.size; omega) (by have := HMX.out; omega)) (hk7.block (d2 + 2) (by have := hE.size; omega) (by omega)))
        have HB7 : Hid (Below d2 w w7) := Lib.hid ((HBW5.out.trans (hE.mono (by omega))).trans (hk7.below (by have := hE.size; omega) fun i hi e => by omega))
        have HC7 := Lib.hid (HRG.out.count)
        clear hm7 hk7 hgw7 hds ht7 hgn hmx hno hng hne hF hkl htx hsx
        go_wp2_with fail
        go_roundw
        case rel =>
          refine ⟨_, cnt5, upd g' (toL T) (some nb), (fun k => if w5.heap.size ≤ k then some (toL T) else tag' k), HR7.out, ?_, HB7.out, fun s h => HGL.out s (by rw [Bool.and_eq_true] at h; exact h.1)⟩
          rw [HKS.out]
          exact HDS.out
        case measure => rw [HR7.out.count, HC7.out]; exact HLT5.out

end Go.Proofs.Ytlfcbhagbdonhaa.Asc

/-
  Layer 04: disk.Crash, by hand: the walk.
-/
import Derived.Test.YtijmfjpcjceejaaPfDsk3
namespace Go.Sy.Pre
open Go.Proofs
open Go.Sy.Pr0 (Wt Ws wEs)

structure CrH (bx : Bx) (d s n m cl : Nat) (c : List UInt8) (bs : List Nat) (ws : Ws) (p wv keep : AV) (ks : List Int) : Prop where
  hd : bx[d]? = some [p, .bsl s 0 n 64, .mp m, wv]
  hs : bx[s]? = some (u8l c)
  hc : c.length = n * 64
  hm : bx[m]? = some (stH cl bs :: wEs ws)
  lt : ∀ b ∈ bs, b < cl
  ok : WOk n s bx bs ws
  ne : d ≠ s ∧ m ≠ s
  hk : ∀ bx' : Bx, (∀ i, i ≠ s → bx'[i]? = bx[i]?) → Ints bx' keep ks
theorem crBlk_len {n s : Nat} {bx : Bx} {bs : List Nat} {ws : Ws} (H : WOk n s bx bs ws) {c : List UInt8} (hc : c.length = n * 64) (ks : List Int) (q : Wt) (hq : q ∈ ws) : (crBlk ks c q.1 q.2.2).length = 64 := by
  obtain ⟨h1, _, _, h4, _⟩ := H.hw q hq
  unfold crBlk
  split
  · have := keepN_le ks q.1 (q.2.2.length / 64)
    exact bk_len (n := q.2.2.length / 64) (by omega) (by omega)
  · exact bk_len h1 hc
theorem spl_self {c : List UInt8} {n k : Nat} (hc : c.length = n * 64) (hk : k < n) : spl c k (bk c k) = c := by
  have hl := bk_len hk hc
  refine bk_ext n (spl_len hc hk hl) hc fun i hi => ?_
  by_cases e : i = k
  · subst e
    exact spl_at hc hk hl
  · exact spl_ne hc hk hi e hl
theorem ptr_ne (d o : Nat) : binA Try.prog .eql 25 (.bp d o) (.v (.pointer none)) = some (.v (.bool false)) := by kernel_rfl
set_option maxRecDepth 100000 in
theorem crash_sound {bx : Bx} {d s n m cl : Nat} {c : List UInt8} {bs : List Nat} {ws : Ws} {p wv keep : AV} {ks : List Int} (H : CrH bx d s n m cl c bs ws p wv keep ks) :
    Sound Try.prog 12 [.bp d 0, keep] bx (.tup []) ((bx.set s (u8l (layS (crBlk ks c) n c bs ws bs))).set m [stH cl []]) := by
  refine ⟨fun vs w => ?_, fun G w β vs hz hM hsz hv => ?_⟩
  · unfold callFunc
    simp only [Sem.run_bind, run_program, Result.andThen_ok, Try.func12]
    rw [if_neg (by decide +kernel), if_neg (by decide +kernel)]
    simp
  refine calls_of_wp Try.func12 c_crAll ?_
  have r0 : ER [] G w β 48 [(0, .bp d 0), (1, keep)] { tmps := vs ++ Array.replicate (48 - vs.size) undef, defers := [] } := ER.begin [.bp d 0, keep] vs hsz (by show 2 ≤ 48; omega) hv
  have hf := crBlk_len H.ok H.hc ks
  let B : List Nat → Bx := fun seen => bx.set s (u8l (layS (crBlk ks c) n c bs ws seen))
  have hBne : ∀ seen i, i ≠ s → (B seen)[i]? = bx[i]? := fun seen i hi => List.getElem?_set_ne (Ne.symm hi)
  have hslt : s < bx.length := (List.getElem?_eq_some_iff.1 H.hs).1
  have hBs : ∀ seen, (B seen)[s]? = some (u8l (layS (crBlk ks c) n c bs ws seen)) := fun seen => List.getElem?_set_self hslt
  have hB0 : B [] = bx := by
    show bx.set s (u8l (layS (crBlk ks c) n c bs ws [])) = bx
    rw [layS_none H.hc]
    exact List.set_getElem?_self' H.hs
  refine wp_seq ?_
  refine wp_piece (n0 := bx.length) (s := ⟨[(0, .bp d 0), (1, keep)], bx⟩) hE0 d_crP0 (Nat.le_refl _) (fun ex s' => ex = .normal ∧ s'.bx = bx ∧ get s'.env 0 = .bp d 0 ∧ get s'.env 1 = keep)
    (F_crP0_eq (evFn cx0 ext0 1000) 1000 bx.length (.bp d 0) keep bx) (by
      have pn := ptr_ne d 0
      unfold F_crP0
      have stq := (pn)
      repeat first
        | ((with_reducible apply ends_bind); case h => first | (simp only [stp, stq]; first | done | rfl) | rfl)
        | ((with_reducible apply ends_t); case h => first | rfl | (simp only [stp, stq]; done))
        | ((with_reducible apply ends_f); case h => first | rfl | (simp only [stp, stq]; done))
      exact ends_some ⟨rfl, rfl, rfl, rfl⟩) hM r0 ?_
  rintro ex ⟨env1, bx1⟩ ⟨rfl, hb1, h0, h1⟩ x1 w1 β1 e1 m1 r1
  simp only at hb1 h0 h1 m1 r1
  subst hb1
  have r1' := r1.pick [0, 1]
  simp only [List.map_cons, List.map_nil, h0, h1] at r1'
  refine wp_seq ?_
  refine wp_seq ?_
  rw [c_crR1E]
  refine wp_region_list ?_
  obtain ⟨o1, o2, o3, o4, o5, ho, p1, p2, p3, p4, p5⟩ := o_crR1
  rw [ho]
  refine list_op (n0 := bx1.length) hE0 (md := md0) p1.2.2 (by rw [p1.1]; rfl) (by rw [p1.1]; rfl) (by rw [p1.2.1]; rfl) m1 r1' ?_
  intro a1 u1 γ1 f1 n1 s1
  refine list_op (n0 := bx1.length) hE0 (md := md0) p2.2.2 (by rw [p2.1]; rfl) (by rw [p2.1]; rfl) (by rw [p2.2.1]; rfl) n1 s1 ?_
  intro a2 u2 γ2 f2 n2 s2
  have hfa := (fa_d d).2.1
  have hld := ld_d2 H.hd
  refine list_op (n0 := bx1.length) (r := .bp d 2) (env' := _) (bx' := bx1) hE0 (md := md0) p3.2.2 (by rw [p3.1]; rfl) (by rw [p3.1]; exact congrArg (Option.map fun r => (r, (_ : Env), bx1)) hfa) (by rw [p3.2.1]; rfl) n2 s2 ?_
  intro a3 u3 γ3 f3 n3 s3
  refine list_op (n0 := bx1.length) (r := .mp m) (env' := _) (bx' := bx1) hE0 (md := md0) p4.2.2 (by rw [p4.1]; rfl) (by rw [p4.1]; exact congrArg (Option.map fun r => (r, (_ : Env), bx1)) hld) (by rw [p4.2.1]; rfl) n3 s3 ?_
  intro a4 u4 γ4 f4 n4 s4
  have s4' := s4.pick [12, 0, 1]
  have s4'' : ER [] G u4 γ4 48 [(12, .mp m), (0, .bp d 0), (1, keep)] a4 := s4'
  have hv12 : VR u4 (im G u4 γ4) γ4 (.mp m) (a4.eval (.tmp 12)) := s4''.opnd (.tmp 12)
  obtain ⟨blk, es, cl', hβ, hval, hheap, t, ht, hes⟩ := n4.mget hv12 H.hm
  rw [List.cons.injEq] at ht
  obtain ⟨g1, g2⟩ := stH_inj ht.1
  subst g1
  have hrange := run_range_map (P := Try.prog) u4 61 3 35 blk es cl (mpT_spec mp_wt) hheap
  refine list_value (s := Instr.range 61 (.map (some blk))) p5.2.2 ?_ hrange ?_
  · obtain ⟨d', op, ty, ps, af, gd⟩ := o5
    have := p5.1
    simp only at this
    subst this
    simp only [execOp, hval]
  obtain ⟨m5, e5⟩ := n4.fresh (.mapIter (some blk) cl #[] cl)
  have hsz5 : (u4.alloc (.mapIter (some blk) cl #[] cl)).heap.size = u4.heap.size + 1 := World.size_alloc ..
  have hit : (u4.alloc (.mapIter (some blk) cl #[] cl)).heap[u4.heap.size]? = some (.mapIter (some blk) cl #[] cl) := heap_alloc_new u4 _
  have hno : ¬ owned γ4 u4.heap.size := by
    rintro ⟨b, o, hb, hp⟩
    have := n4.lies_lt hb hp
    omega
  have r5 : ER [] G (u4.alloc (.mapIter (some blk) cl #[] cl)) γ4 48 [(13, .v (.pointer (some ⟨u4.heap.size, 0, none⟩))), (0, .bp d 0), (1, keep)] (a4.put o5.dst (.pointer (some ⟨u4.heap.size, 0, none⟩))) := by
    have h1 : ER [] G (u4.alloc (.mapIter (some blk) cl #[] cl)) γ4 48 [(12, .mp m), (0, .bp d 0), (1, keep)] a4 := ⟨s4''.sz, s4''.df, fun t => e5.vr (s4''.vr t)⟩
    rw [p5.2.1]
    have h2 := h1.put (d := some 13) (x := .v (.pointer (some ⟨u4.heap.size, 0, none⟩))) (v := .pointer (some ⟨u4.heap.size, 0, none⟩)) rfl (.v _)
    exact h2.pick [13, 0, 1]
  have eAll := ((((e1.trans (f1.weaken fun _ _ => rfl)).trans (f2.weaken fun _ _ => rfl)).trans (f3.weaken fun _ _ => rfl)).trans (f4.weaken fun _ _ => rfl)).trans (e5.weaken fun _ _ => rfl)
  generalize u4.alloc (.mapIter (some blk) cl #[] cl) = u5 at *
  generalize a4.put o5.dst (.pointer (some ⟨u4.heap.size, 0, none⟩)) = a5 at *
  show Code.wp _ _ _ _ _
  rw [c_crBlkE]
  obtain ⟨q1, q2, qe, q3, q4, q5, q6, RC, t3, t4, t5, t6⟩ := rg_cr
  have hbx1 : B [] = bx1 := hB0
  have hBm : ∀ seen, (B seen)[m]? = some (stH cl bs :: wEs ws) := fun seen => by rw [hBne seen m H.ne.2]; exact H.hm
  have hMB : MpBox (wEs ws) bs cl (stH cl bs :: wEs ws) := ⟨rfl, H.lt, H.ok.nd⟩
  refine range_loop (P := Try.prog) (n := 1000) (E := evFn cx0 ext0 1000) (md := md0) (N := 48) (env0 := [(0, .bp d 0), (1, keep)]) (B := B) (r := u4.heap.size) (blk := blk) (β := γ4) (w := u5) (G := G) (ds := []) hE0 RC ⟨by omega, by omega, by omega, by omega⟩ ⟨by omega, by omega, by omega⟩ d_crR4 (by simp) hMB hBm ?_ (by rw [hbx1]; exact m5) r5 hit (by have := n4.sz; omega) hno hβ ?_
  · intro itv seen b k x i hib hei hbs hsub hnd
    unfold wEs at hei
    rw [List.getElem?_map, Option.map_eq_some_iff] at hei
    obtain ⟨q, hqi, hq⟩ := hei
    simp only [AV.tup.injEq, List.cons.injEq, AV.v.injEq, and_true] at hq
    obtain ⟨rfl, rfl⟩ := hq
    have hqm := List.mem_of_getElem? hqi
    obtain ⟨w1', w2', w3', w4', w5'⟩ := H.ok.hw q hqm
    obtain ⟨l1, l2⟩ := layS_len H.ok H.hc hf seen
    obtain ⟨st1, st2⟩ := layS_step H.ok H.hc hf seen hib hqi hbs
    refine ⟨[(5, .gs q.2.1 (q.2.2.length / 64) 64), (4, .v (.int .i64 (q.1 : Int))), (18, .gs q.2.1 (q.2.2.length / 64) 64), (17, .v (.int .i64 (q.1 : Int))), (16, .tup [.v (.int .i64 (q.1 : Int)), .gs q.2.1 (q.2.2.length / 64) 64]), (13, .v itv), (0, .bp d 0), (1, keep)],
      [(0, .bp d 0), (1, keep), (4, .v (.int .i64 (q.1 : Int))), (5, .gs q.2.1 (q.2.2.length / 64) 64), (13, .v itv)], _, ?_, fun t => ?_, F_crR4_eq (evFn cx0 ext0 1000) 1000 (B seen).length (.bp d 0) keep (.v (.int .i64 (q.1 : Int))) (.gs q.2.1 (q.2.2.length / 64) 64) (.v itv) (B seen), ?_⟩
    · simp only [evOps, if_true, wantA, t3.1, t3.2.1, t3.2.2, t4.1, t4.2.1, t4.2.2, t5.1, t5.2.1, t5.2.2, t6.1, t6.2.1, t6.2.2]
      rfl
    · exact get_pick [(5, .gs q.2.1 (q.2.2.length / 64) 64), (4, .v (.int .i64 (q.1 : Int))), (18, .gs q.2.1 (q.2.2.length / 64) 64), (17, .v (.int .i64 (q.1 : Int))), (16, .tup [.v (.int .i64 (q.1 : Int)), .gs q.2.1 (q.2.2.length / 64) 64]), (13, .v itv), (0, .bp d 0), (1, keep)] [0, 1, 4, 5, 13] t
    · refine (crash_round (k0 := 1000) (bx := B seen) (d := d) (s := s) (sn := n) (p := p) (m := .mp m) (w := wv) (by rw [hBne seen d H.ne.1]; exact H.hd) (hBs seen) l2 (H.hk (B seen) (hBne seen)) q.1 w1' q.2.1 (q.2.2.length / 64) q.2.2 (by rw [hBne seen _ w2']; exact w3') (by omega) (by omega) (.v itv)).mono ?_
      rintro ex s' ⟨rfl, hbx, g0, g1, g13⟩
      refine ⟨rfl, ?_, fun t => ?_⟩
      · rw [hbx]
        show _ = bx1.set s (u8l (layS (crBlk ks c) n c bs ws (seen ++ [b])))
        rw [← st1]
        by_cases hk : 0 < keepN ks q.1 (q.2.2.length / 64)
        · have e : crBlk ks c q.1 q.2.2 = bk q.2.2 (keepN ks q.1 (q.2.2.length / 64) - 1) := by unfold crBlk; rw [if_pos hk]
          rw [if_pos hk, e]
          show (bx1.set s _).set s _ = _
          rw [List.set_set]
        · have e : crBlk ks c q.1 q.2.2 = bk c q.1 := by unfold crBlk; rw [if_neg hk]
          rw [if_neg hk, e, ← st2, spl_self l2 w1']
      · have : ((13, AV.v itv) :: [(0, AV.bp d 0), (1, keep)]) = [13, 0, 1].map fun t => (t, get s'.env t) := by simp [g0, g1, g13]
        rw [this]
        exact get_pick _ _ t
  · intro seen a' w' β' hall hnd hsub ex mx rx
    have hall' := layS_all (f := crBlk ks c) (n := n) (c := c) (ws := ws) hall
    have hBseen : B seen = B bs := by show bx1.set s _ = bx1.set s _; rw [hall']
    rw [hBseen] at mx
    have rx' : ER [] G w' β' 48 [(0, .bp d 0)] a' := rx.pick [0]
    have hBm' := hBm bs
    have hBd : (B bs)[d]? = some [p, .bsl s 0 n 64, .mp m, wv] := by rw [hBne bs d H.ne.1]; exact H.hd
    have hlen : bx1.length = (B bs).length := by show _ = (bx1.set s _).length; rw [List.length_set]
    show Code.wp _ _ _ _ _
    refine wp_piece (n0 := bx1.length) (s := ⟨[(0, .bp d 0)], B bs⟩) hE0 d_crP9 (by rw [hlen]; exact Nat.le_refl _) (fun ex s' => ex = .normal ∧ s'.bx = (B bs).set m [stH cl []])
      (F_crP9_eq (evFn cx0 ext0 1000) 1000 bx1.length (.bp d 0) (B bs)) (by
        have fa := (fa_d d).2.1
        have nl : ∀ d : Nat, nilA (.bp d 0) = some (.bp d 0) := fun _ => rfl
        have l2' := ld_d2 hBd
        have cr : crV (B bs) (.mp m) = some (.v (.tuple #[]), (B bs).set m [stH cl []]) := by
          unfold crV clrM
          simp only [hBm', Option.bind_some, stH]
          rfl
        unfold F_crP9
        have stq := (And.intro (nl) (And.intro (fa) (And.intro (l2') (cr))))
        repeat first
          | ((with_reducible apply ends_bind); case h => first | (simp only [stp, stq]; first | done | rfl) | rfl)
          | ((with_reducible apply ends_t); case h => first | rfl | (simp only [stp, stq]; done))
          | ((with_reducible apply ends_f); case h => first | rfl | (simp only [stp, stq]; done))
        exact ends_some ⟨rfl, rfl⟩) mx rx' ?_
    rintro ex9 ⟨env9, bx9⟩ ⟨rfl, hb9⟩ x9 w9 β9 e9 m9 r9
    simp only at hb9
    subst hb9
    obtain ⟨v, g1, g2⟩ := results_ok (P := Try.prog) (fn := Try.f12) m9 r9 (r := []) rfl
    exact ⟨r9.df, v, g1, v, β9, rfl, (eAll.trans (ex.weaken fun _ _ => rfl)).trans e9, m9, g2⟩
end Go.Sy.Pre

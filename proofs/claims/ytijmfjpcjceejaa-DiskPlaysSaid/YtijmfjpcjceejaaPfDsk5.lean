/-
  Layer 04: disk.Flush, by hand. Layer 04: disk's functions as the reader takes them, Crash and Flush with them, and what these two do.
-/
import Derived.Test.YtijmfjpcjceejaaPfDsk
namespace Go.Sy.Pre
open Go.Proofs
open Go.Sy.Pr0 (Wt Ws wEs DB DQ dbA dbA_of shw wl)

/-- what a sector that waits has behind a flush -/
def flBlk (_k : Nat) (e : List UInt8) : List UInt8 := bk e (e.length / 64 - 1)
theorem c_flAll : Try.f10.body = some (.seq c_flP0 (.seq c_flP1 (.seq c_flP2 (.seq (.seq c_flR4 c_flBlk) c_flP8)))) := by kernel_rfl
theorem c_flBlkE : c_flBlk = .block 0 (.loop c_flB) := by kernel_rfl
theorem c_flR4E : c_flR4 = .region 4 (opsC c_flR4) false := by kernel_rfl
theorem o_flR4 : ∃ o1 o2 o3 o4 o5 : Oper, (opsC c_flR4).toList = [o1, o2, o3, o4, o5] ∧ (o1.op = .move (.tmp 0) ∧ o1.dst = some 10 ∧ o1.guard = none) ∧ (o2.op = .nilCheck (.tmp 10) ∧ o2.dst = some 11 ∧ o2.guard = none) ∧
    (o3.op = .fieldAddr 63 (.tmp 11) 2 ∧ o3.dst = some 12 ∧ o3.guard = none) ∧ (o4.op = .load 61 (.tmp 12) ∧ o4.dst = some 13 ∧ o4.guard = none) ∧ (o5.op = .range 61 (.tmp 13) ∧ o5.dst = some 14 ∧ o5.guard = none) :=
  ⟨_, _, _, _, _, rfl, ⟨rfl, rfl, rfl⟩, ⟨rfl, rfl, rfl⟩, ⟨rfl, rfl, rfl⟩, ⟨rfl, rfl, rfl⟩, ⟨rfl, rfl, rfl⟩⟩
theorem rg_fl : ∃ o1 o2 oe o3 o4 : Oper, RgCode c_flB 14 15 16 17 0 1 c_flR7 (opsC c_flR5) (opsC c_flR6) o1 o2 oe [o3, o4] ∧
    (o3.op = .extract (.tmp 17) 0 ∧ o3.dst = some 18 ∧ o3.guard = none) ∧ (o4.op = .assign (.tmp 18) ∧ o4.dst = some 4 ∧ o4.guard = none) :=
  ⟨_, _, _, _, _, ⟨⟨5, 6, by kernel_rfl⟩, rfl, ⟨rfl, rfl, rfl⟩, ⟨rfl, rfl, rfl⟩, rfl, ⟨rfl, rfl, rfl⟩⟩, ⟨rfl, rfl, rfl⟩, ⟨rfl, rfl, rfl⟩⟩
theorem find_of {ws : Ws} (hn : (ws.map (·.1)).Nodup) {q : Wt} (hq : q ∈ ws) : ws.find? (fun r => r.1 == q.1) = some q :=
  find_uniq hq (by simp) fun y hy hp => by
    obtain ⟨i, hi⟩ := List.getElem?_of_mem hq
    obtain ⟨j, hj⟩ := List.getElem?_of_mem hy
    have : i = j := nd_idx (x := q.1) hn (by rw [List.getElem?_map, hi]; rfl) (by rw [List.getElem?_map, hj]; simp at hp; simp [hp])
    subst this
    rw [hi] at hj
    exact (Option.some.inj hj).symm
theorem wl_of {ws : Ws} (hn : (ws.map (·.1)).Nodup) {q : Wt} (hq : q ∈ ws) : wl ws q.1 = q.2.2 := by
  unfold wl
  rw [find_of hn hq]
theorem ev_ext {f : FuncId} {args : List AV} {bx : Bx} {r : AV × Bx} (h : ext1 f args bx = some r) : evFn cx0 ext0 1000 f args bx = some r := by
  show (match ext0 f args bx with | some r => some r | none => _) = _
  have : ext0 f args bx = some r := h
  rw [this]
theorem shows_call {O : Nat → Prop} {bx : Bx} {d s n m cl : Nat} {p : AV} {z : Int} {c : List UInt8} {bs : List Nat} {ws : Ws} (D : DB O bx d s n m cl p z c bs ws) (hg : Pr0.Good bx) (i : Nat) (hi : i < n) :
    callA (evFn cx0 ext0 1000) md_disk_Disk_Flush bx 26 [.bp d 0, .v (.int .i64 i)] = some (.agg (u8l (shw c ws i)), bx) := by
  have h : ext1 26 [.bp d 0, .v (.int .i64 i)] bx = some (.agg (u8l (shw c ws i)), bx) := by
    unfold ext1 Pr0.ext1
    rw [if_pos rfl]
    simp only [dbA_of D, Option.bind_some]
    rw [if_pos (by omega), Int.toNat_natCast]
  unfold callA
  rw [show md_disk_Disk_Flush 26 = .objR from rfl]
  simp only [ev_ext h, Option.bind_some]
  rw [if_pos (by rw [List.take_length]; exact eqBx_refl hg)]
  simp only [AV.keep, AV.keepL_eq, u8l_keep]
theorem flush_round {n0 : Nat} {O : Nat → Prop} {bx : Bx} {d s n m cl : Nat} {p : AV} {z : Int} {c : List UInt8} {bs : List Nat} {ws : Ws} (D : DB O bx d s n m cl p z c bs ws) (hg : Pr0.Good bx) (q : Wt) (hq : q ∈ ws) (ev itv : AV) :
    Ends (F_flR7 (evFn cx0 ext0 1000) 1000 n0 (.bp d 0) ev (.v (.int .i64 (q.1 : Int))) itv bx) fun ex s' => ex = .normal ∧ s'.bx = bx.set s (u8l (spl c q.1 (flBlk q.1 q.2.2))) ∧
      get s'.env 0 = .bp d 0 ∧ get s'.env 3 = ev ∧ get s'.env 14 = itv := by
  obtain ⟨w1, w2, w3, w4, w5, w6⟩ := D.hw q hq
  have nl : nilA (.bp d 0) = some (.bp d 0) := rfl
  have fa := (fa_d d).1
  have l1 := ld_d1 D.hd
  have sh := shows_call D hg q.1 w1
  have e1 : shw c ws q.1 = flBlk q.1 q.2.2 := by
    unfold shw flBlk
    rw [wl_of D.kn hq, if_pos w4]
  rw [e1] at sh
  have ix := ix_bb s n q.1 .i64 w1
  have hl : (flBlk q.1 q.2.2).length = 64 := bk_len (n := q.2.2.length / 64) (by omega) (by omega)
  have st := st_bb D.hs D.hc w1 hl
  unfold F_flR7
  have stq := (And.intro (nl) (And.intro (fa) (And.intro (l1) (And.intro (sh) (And.intro (ix) (st))))))
  repeat first
    | ((with_reducible apply ends_bind); case h => first | (simp only [stp, stq]; first | done | rfl) | rfl)
    | ((with_reducible apply ends_t); case h => first | rfl | (simp only [stp, stq]; done))
    | ((with_reducible apply ends_f); case h => first | rfl | (simp only [stp, stq]; done))
  exact ends_some ⟨rfl, rfl, rfl, rfl, rfl⟩
theorem DB.wok {O : Nat → Prop} {bx : Bx} {d s n m cl : Nat} {p : AV} {z : Int} {c : List UInt8} {bs : List Nat} {ws : Ws} (D : DB O bx d s n m cl p z c bs ws) : WOk n s bx bs ws :=
  ⟨D.nd, D.ln, fun q hq => by obtain ⟨h1, h2, h3, h4, h5, h6, h7, h8, h9⟩ := D.hw q hq; exact ⟨h1, h8, h2, h3, by omega⟩, D.kn⟩
/-- the stable bytes are others -/
theorem DB.stb {O : Nat → Prop} {bx : Bx} {d s n m cl : Nat} {p : AV} {z : Int} {c : List UInt8} {bs : List Nat} {ws : Ws} (D : DB O bx d s n m cl p z c bs ws) {c' : List UInt8} (hc' : c'.length = n * 64) : DB O (bx.set s (u8l c')) d s n m cl p z c' bs ws := by
  have hne : ∀ i, i ≠ s → (bx.set s (u8l c'))[i]? = bx[i]? := fun i hi => List.getElem?_set_ne (Ne.symm hi)
  refine ⟨by rw [hne d D.ne.1]; exact D.hd, List.getElem?_set_self D.slt, hc', by rw [hne m D.ne.2.2]; exact D.hm, D.lt, D.nd, D.ln, fun q hq => ?_, D.kn, D.bn, D.ne, D.od⟩
  obtain ⟨h1, h2, h3, h4, h5, h6, h7, h8, h9⟩ := D.hw q hq
  exact ⟨h1, by rw [hne _ h8]; exact h2, h3, h4, h5, h6, h7, h8, h9⟩
theorem use_call {bx bx1 : Bx} {d : Nat} {e : Int} (hu : evFn Pr0.cx0 Pr0.ext0 1000 25 [.bp d 0, .v (.int .i64 0)] bx = some (.v (.int .i64 e), bx1)) :
    callA (evFn cx0 ext0 1000) md_disk_Disk_Flush bx 25 [.bp d 0, .v (.int .i64 0)] = some (.v (.int .i64 e), bx1) := by
  have h : ext1 25 [.bp d 0, .v (.int .i64 0)] bx = some (.v (.int .i64 e), bx1) := by
    unfold ext1 Pr0.ext1
    rw [if_neg (by decide), if_pos (by decide)]
    exact hu
  unfold callA
  rw [show md_disk_Disk_Flush 25 = .objK from rfl]
  exact ev_ext h
theorem flush_err {bx bx1 : Bx} {d : Nat} {e : Int} (he : e ≠ 0) (hu : evFn Pr0.cx0 Pr0.ext0 1000 25 [.bp d 0, .v (.int .i64 0)] bx = some (.v (.int .i64 e), bx1)) (hlen : bx.length ≤ bx1.length) :
    Sound Try.prog 10 [.bp d 0] bx (.v (.int .i64 e)) bx1 := by
  refine ⟨fun vs w => ?_, fun G w β vs hz hM hsz hv => ?_⟩
  · unfold callFunc
    simp only [Sem.run_bind, run_program, Result.andThen_ok, Try.func10]
    rw [if_neg (by decide +kernel), if_neg (by decide +kernel)]
    simp
  refine calls_of_wp Try.func10 c_flAll ?_
  have r0 : ER [] G w β 33 [(0, .bp d 0)] { tmps := vs ++ Array.replicate (33 - vs.size) undef, defers := [] } := ER.begin [.bp d 0] vs hsz (by show 1 ≤ 33; omega) hv
  refine wp_seq ?_
  refine wp_piece (n0 := bx.length) (s := ⟨[(0, .bp d 0)], bx⟩) hE0 d_flP0 (Nat.le_refl _) (fun ex s' => ex = .normal ∧ s'.bx = bx ∧ get s'.env 0 = .bp d 0)
    (F_flP0_eq (evFn cx0 ext0 1000) 1000 bx.length (.bp d 0) bx) (ends_some ⟨rfl, rfl, rfl⟩) hM r0 ?_
  rintro ex ⟨env1, bx1'⟩ ⟨rfl, hb1, h0⟩ x1 w1 β1 e1 m1 r1
  simp only at hb1 h0 m1 r1
  subst hb1
  have r1' := r1.pick [0]
  simp only [List.map_cons, List.map_nil, h0] at r1'
  refine wp_seq ?_
  refine wp_piece (n0 := bx1'.length) (s := ⟨[(0, .bp d 0)], bx1'⟩) hE0 d_flP1 (Nat.le_refl _) (fun ex s' => ex = .normal ∧ s'.bx = bx1 ∧ get s'.env 0 = .bp d 0 ∧ get s'.env 3 = .v (.int .i64 e))
    (F_flP1_eq (evFn cx0 ext0 1000) 1000 bx1'.length (.bp d 0) bx1') (by
      have cu := use_call hu
      unfold F_flP1
      have stq := (cu)
      repeat first
        | ((with_reducible apply ends_bind); case h => first | (simp only [stp, stq]; first | done | rfl) | rfl)
        | ((with_reducible apply ends_t); case h => first | rfl | (simp only [stp, stq]; done))
        | ((with_reducible apply ends_f); case h => first | rfl | (simp only [stp, stq]; done))
      exact ends_some ⟨rfl, rfl, rfl, rfl⟩) m1 r1' ?_
  rintro ex ⟨env2, bx2⟩ ⟨rfl, hb2, h20, h23⟩ x2 w2 β2 e2 m2 r2
  simp only at hb2 h20 h23 m2 r2
  subst hb2
  have r2' := r2.pick [0, 3]
  simp only [List.map_cons, List.map_nil, h20, h23] at r2'
  refine wp_seq ?_
  refine wp_piece (n0 := bx1'.length) (s := ⟨[(0, .bp d 0), (3, .v (.int .i64 e))], bx2⟩) hE0 d_flP2 hlen (fun ex s' => ex = .ret ∧ s'.bx = bx2 ∧ get s'.env 2 = .v (.int .i64 e))
    (F_flP2_eq (evFn cx0 ext0 1000) 1000 bx1'.length (.bp d 0) (.v (.int .i64 e)) bx2) (by
      have g : (e != 0) = true := by simpa using he
      unfold F_flP2
      have stq := (g)
      repeat first
        | ((with_reducible apply ends_bind); case h => first | (simp only [stp, stq]; first | done | rfl) | rfl)
        | ((with_reducible apply ends_t); case h => first | rfl | (simp only [stp, stq]; done))
        | ((with_reducible apply ends_f); case h => first | rfl | (simp only [stp, stq]; done))
      exact ends_some ⟨rfl, rfl, rfl⟩) m2 r2' ?_
  rintro ex ⟨env3, bx3⟩ ⟨rfl, hb3, h3⟩ x3 w3 β3 e3 m3 r3
  simp only at hb3 h3
  subst hb3
  obtain ⟨v, g1, g2⟩ := results_ok (P := Try.prog) (fn := Try.f10) m3 r3 (r := [.v (.int .i64 e)]) (by show some [get env3 2] = _; rw [h3])
  exact ⟨r3.df, v, g1, v, β3, rfl, (e1.trans e2).trans e3, m3, g2⟩
set_option maxRecDepth 100000 in
theorem flush_ok {bx bx1 : Bx} {O : Nat → Prop} {d s n m cl : Nat} {p : AV} {z : Int} {c : List UInt8} {bs : List Nat} {ws : Ws} (hu : evFn Pr0.cx0 Pr0.ext0 1000 25 [.bp d 0, .v (.int .i64 0)] bx = some (.v (.int .i64 0), bx1)) (hlen : bx.length ≤ bx1.length)
    (D : DB O bx1 d s n m cl p z c bs ws) (hg : Pr0.Good bx1) :
    Sound Try.prog 10 [.bp d 0] bx (.v (.int .i64 0)) ((bx1.set s (u8l (layS flBlk n c bs ws bs))).set m [stH cl []]) := by
  refine ⟨fun vs w => ?_, fun G w β vs hz hM hsz hv => ?_⟩
  · unfold callFunc
    simp only [Sem.run_bind, run_program, Result.andThen_ok, Try.func10]
    rw [if_neg (by decide +kernel), if_neg (by decide +kernel)]
    simp
  refine calls_of_wp Try.func10 c_flAll ?_
  have r0 : ER [] G w β 33 [(0, .bp d 0)] { tmps := vs ++ Array.replicate (33 - vs.size) undef, defers := [] } := ER.begin [.bp d 0] vs hsz (by show 1 ≤ 33; omega) hv
  have H := DB.wok D
  have hf : ∀ q ∈ ws, (flBlk q.1 q.2.2).length = 64 := fun q hq => by
    obtain ⟨w1, w2, w3, w4, w5, w6⟩ := D.hw q hq
    exact bk_len (n := q.2.2.length / 64) (by omega) (by omega)
  let B : List Nat → Bx := fun seen => bx1.set s (u8l (layS flBlk n c bs ws seen))
  have hBD : ∀ seen, DB O (B seen) d s n m cl p z (layS flBlk n c bs ws seen) bs ws := fun seen => DB.stb D (layS_len H D.hc hf seen).2
  have hBG : ∀ seen, Pr0.Good (B seen) := fun seen => hg.set (eqCs_u8l _) s
  have hB0 : B [] = bx1 := by
    show bx1.set s (u8l (layS flBlk n c bs ws [])) = bx1
    rw [layS_none D.hc]
    exact List.set_getElem?_self' D.hs
  refine wp_seq ?_
  refine wp_piece (n0 := bx.length) (s := ⟨[(0, .bp d 0)], bx⟩) hE0 d_flP0 (Nat.le_refl _) (fun ex s' => ex = .normal ∧ s'.bx = bx ∧ get s'.env 0 = .bp d 0)
    (F_flP0_eq (evFn cx0 ext0 1000) 1000 bx.length (.bp d 0) bx) (ends_some ⟨rfl, rfl, rfl⟩) hM r0 ?_
  rintro ex ⟨env1, bx1'⟩ ⟨rfl, hb1, h0⟩ x1 w1 β1 e1 m1 r1
  simp only at hb1 h0 m1 r1
  subst hb1
  have r1' := r1.pick [0]
  simp only [List.map_cons, List.map_nil, h0] at r1'
  refine wp_seq ?_
  refine wp_piece (n0 := bx1'.length) (s := ⟨[(0, .bp d 0)], bx1'⟩) hE0 d_flP1 (Nat.le_refl _) (fun ex s' => ex = .normal ∧ s'.bx = bx1 ∧ get s'.env 0 = .bp d 0 ∧ get s'.env 3 = .v (.int .i64 0))
    (F_flP1_eq (evFn cx0 ext0 1000) 1000 bx1'.length (.bp d 0) bx1') (by
      have cu := use_call hu
      unfold F_flP1
      have stq := (cu)
      repeat first
        | ((with_reducible apply ends_bind); case h => first | (simp only [stp, stq]; first | done | rfl) | rfl)
        | ((with_reducible apply ends_t); case h => first | rfl | (simp only [stp, stq]; done))
        | ((with_reducible apply ends_f); case h => first | rfl | (simp only [stp, stq]; done))
      exact ends_some ⟨rfl, rfl, rfl, rfl⟩) m1 r1' ?_
  rintro ex ⟨env2, bx2⟩ ⟨rfl, hb2, h20, h23⟩ x2 w2 β2 e2 m2 r2
  simp only at hb2 h20 h23 m2 r2
  subst hb2
  have r2' := r2.pick [0, 3]
  simp only [List.map_cons, List.map_nil, h20, h23] at r2'
  refine wp_seq ?_
  refine wp_piece (n0 := bx1'.length) (s := ⟨[(0, .bp d 0), (3, .v (.int .i64 0))], bx2⟩) hE0 d_flP2 hlen (fun ex s' => ex = .normal ∧ s'.bx = bx2 ∧ get s'.env 0 = .bp d 0 ∧ get s'.env 3 = .v (.int .i64 0))
    (F_flP2_eq (evFn cx0 ext0 1000) 1000 bx1'.length (.bp d 0) (.v (.int .i64 0)) bx2) (by
      have g : ((0 : Int) != 0) = false := rfl
      unfold F_flP2
      have stq := (g)
      repeat first
        | ((with_reducible apply ends_bind); case h => first | (simp only [stp, stq]; first | done | rfl) | rfl)
        | ((with_reducible apply ends_t); case h => first | rfl | (simp only [stp, stq]; done))
        | ((with_reducible apply ends_f); case h => first | rfl | (simp only [stp, stq]; done))
      exact ends_some ⟨rfl, rfl, rfl, rfl⟩) m2 r2' ?_
  rintro ex ⟨env3, bx3⟩ ⟨rfl, hb3, h30, h33⟩ x3 w3 β3 e3 m3 r3
  simp only at hb3 h30 h33 m3 r3
  subst hb3
  have r3' := r3.pick [0, 3]
  simp only [List.map_cons, List.map_nil, h30, h33] at r3'
  refine wp_seq ?_
  refine wp_seq ?_
  rw [c_flR4E]
  refine wp_region_list ?_
  obtain ⟨o1, o2, o3, o4, o5, ho, p1, p2, p3, p4, p5⟩ := o_flR4
  rw [ho]
  refine list_op (n0 := bx3.length) hE0 (md := md0) p1.2.2 (by rw [p1.1]; rfl) (by rw [p1.1]; rfl) (by rw [p1.2.1]; rfl) m3 r3' ?_
  intro a1 u1 γ1 f1 n1 s1
  refine list_op (n0 := bx3.length) hE0 (md := md0) p2.2.2 (by rw [p2.1]; rfl) (by rw [p2.1]; rfl) (by rw [p2.2.1]; rfl) n1 s1 ?_
  intro a2 u2 γ2 f2 n2 s2
  have hfa := (fa_d d).2.1
  have hld := ld_d2 D.hd
  refine list_op (n0 := bx3.length) (r := .bp d 2) (env' := _) (bx' := bx3) hE0 (md := md0) p3.2.2 (by rw [p3.1]; rfl) (by rw [p3.1]; exact congrArg (Option.map fun r => (r, (_ : Env), bx3)) hfa) (by rw [p3.2.1]; rfl) n2 s2 ?_
  intro a3 u3 γ3 f3 n3 s3
  refine list_op (n0 := bx3.length) (r := .mp m) (env' := _) (bx' := bx3) hE0 (md := md0) p4.2.2 (by rw [p4.1]; rfl) (by rw [p4.1]; exact congrArg (Option.map fun r => (r, (_ : Env), bx3)) hld) (by rw [p4.2.1]; rfl) n3 s3 ?_
  intro a4 u4 γ4 f4 n4 s4
  have s4' := s4.pick [13, 0, 3]
  have s4'' : ER [] G u4 γ4 33 [(13, .mp m), (0, .bp d 0), (3, .v (.int .i64 0))] a4 := s4'
  have hv12 : VR u4 (im G u4 γ4) γ4 (.mp m) (a4.eval (.tmp 13)) := s4''.opnd (.tmp 13)
  obtain ⟨blk, es, cl', hβ, hval, hheap, t, ht, hes⟩ := n4.mget hv12 D.hm
  rw [List.cons.injEq] at ht
  obtain ⟨g1, g2⟩ := stH_inj ht.1
  subst g1
  have hrange := run_range_map (P := Try.prog) u4 61 3 35 blk es cl (mpT_spec mp_wt) hheap
  refine list_value (s := Instr.range 61 (.map (some blk))) p5.2.2 ?_ hrange ?_
  · obtain ⟨d', op, ty, ps, af, gd⟩ := o5
    have := p5.1
    simp only at this
    subst this
    simp only [execOp, hval]
  obtain ⟨m5, e5⟩ := n4.fresh (.mapIter (some blk) cl #[] cl)
  have hsz5 : (u4.alloc (.mapIter (some blk) cl #[] cl)).heap.size = u4.heap.size + 1 := World.size_alloc ..
  have hit : (u4.alloc (.mapIter (some blk) cl #[] cl)).heap[u4.heap.size]? = some (.mapIter (some blk) cl #[] cl) := heap_alloc_new u4 _
  have hno : ¬ owned γ4 u4.heap.size := by
    rintro ⟨b, o, hb, hp⟩
    have := n4.lies_lt hb hp
    omega
  have r5 : ER [] G (u4.alloc (.mapIter (some blk) cl #[] cl)) γ4 33 [(14, .v (.pointer (some ⟨u4.heap.size, 0, none⟩))), (0, .bp d 0), (3, .v (.int .i64 0))] (a4.put o5.dst (.pointer (some ⟨u4.heap.size, 0, none⟩))) := by
    have h1 : ER [] G (u4.alloc (.mapIter (some blk) cl #[] cl)) γ4 33 [(13, .mp m), (0, .bp d 0), (3, .v (.int .i64 0))] a4 := ⟨s4''.sz, s4''.df, fun t => e5.vr (s4''.vr t)⟩
    rw [p5.2.1]
    have h2 := h1.put (d := some 14) (x := .v (.pointer (some ⟨u4.heap.size, 0, none⟩))) (v := .pointer (some ⟨u4.heap.size, 0, none⟩)) rfl (.v _)
    exact h2.pick [14, 0, 3]
  have eAll := (((((((e1.trans e2).trans e3).trans (f1.weaken fun _ _ => rfl)).trans (f2.weaken fun _ _ => rfl)).trans (f3.weaken fun _ _ => rfl)).trans (f4.weaken fun _ _ => rfl)).trans (e5.weaken fun _ _ => rfl))
  generalize u4.alloc (.mapIter (some blk) cl #[] cl) = u5 at *
  generalize a4.put o5.dst (.pointer (some ⟨u4.heap.size, 0, none⟩)) = a5 at *
  show Code.wp _ _ _ _ _
  rw [c_flBlkE]
  obtain ⟨q1, q2, qe, q3, q4, RC, t3, t4⟩ := rg_fl
  have hbx1 : B [] = bx3 := hB0
  have hBm : ∀ seen, (B seen)[m]? = some (stH cl bs :: wEs ws) := fun seen => (hBD seen).hm
  have hMB : MpBox (wEs ws) bs cl (stH cl bs :: wEs ws) := ⟨rfl, D.lt, D.nd⟩
  refine range_loop (P := Try.prog) (n := 1000) (E := evFn cx0 ext0 1000) (md := md_disk_Disk_Flush) (N := 33) (env0 := [(0, .bp d 0), (3, .v (.int .i64 0))]) (B := B) (r := u4.heap.size) (blk := blk) (β := γ4) (w := u5) (G := G) (ds := []) hE0 RC ⟨by omega, by omega, by omega, by omega⟩ ⟨by omega, by omega, by omega⟩ d_flR7 (by simp) hMB hBm ?_ (by rw [hbx1]; exact m5) r5 hit (by have := n4.sz; omega) hno hβ ?_
  · intro itv seen b k x i hib hei hbs hsub hnd
    unfold wEs at hei
    rw [List.getElem?_map, Option.map_eq_some_iff] at hei
    obtain ⟨q, hqi, hq⟩ := hei
    simp only [AV.tup.injEq, List.cons.injEq, AV.v.injEq, and_true] at hq
    obtain ⟨rfl, rfl⟩ := hq
    have hqm := List.mem_of_getElem? hqi
    obtain ⟨st1, st2⟩ := layS_step H D.hc hf seen hib hqi hbs
    refine ⟨[(4, .v (.int .i64 (q.1 : Int))), (18, .v (.int .i64 (q.1 : Int))), (17, .tup [.v (.int .i64 (q.1 : Int)), .gs q.2.1 (q.2.2.length / 64) 64]), (14, .v itv), (0, .bp d 0), (3, .v (.int .i64 0))],
      [(0, .bp d 0), (3, .v (.int .i64 0)), (4, .v (.int .i64 (q.1 : Int))), (14, .v itv)], _, ?_, fun t => ?_, F_flR7_eq (evFn cx0 ext0 1000) 1000 (B seen).length (.bp d 0) (.v (.int .i64 0)) (.v (.int .i64 (q.1 : Int))) (.v itv) (B seen), ?_⟩
    · simp only [evOps, if_true, wantA, t3.1, t3.2.1, t3.2.2, t4.1, t4.2.1, t4.2.2]
      rfl
    · exact get_pick [(4, .v (.int .i64 (q.1 : Int))), (18, .v (.int .i64 (q.1 : Int))), (17, .tup [.v (.int .i64 (q.1 : Int)), .gs q.2.1 (q.2.2.length / 64) 64]), (14, .v itv), (0, .bp d 0), (3, .v (.int .i64 0))] [0, 3, 4, 14] t
    · refine (flush_round (hBD seen) (hBG seen) q hqm (.v (.int .i64 0)) (.v itv)).mono ?_
      rintro ex s' ⟨rfl, hbx, g0, g3, g14⟩
      refine ⟨rfl, ?_, fun t => ?_⟩
      · rw [hbx]
        show _ = bx3.set s (u8l (layS flBlk n c bs ws (seen ++ [b])))
        rw [← st1]
        show (bx3.set s _).set s _ = _
        rw [List.set_set]
      · have : ((14, AV.v itv) :: [(0, AV.bp d 0), (3, .v (.int .i64 0))]) = [14, 0, 3].map fun t => (t, get s'.env t) := by simp [g0, g3, g14]
        rw [this]
        exact get_pick _ _ t
  · intro seen a' w' β' hall hnd hsub ex mx rx
    have hall' := layS_all (f := flBlk) (n := n) (c := c) (ws := ws) hall
    have hBseen : B seen = B bs := by show bx3.set s _ = bx3.set s _; rw [hall']
    rw [hBseen] at mx
    have rx' : ER [] G w' β' 33 [(0, .bp d 0), (3, .v (.int .i64 0))] a' := rx.pick [0, 3]
    have hBm' := hBm bs
    have hBd := (hBD bs).hd
    have hlen' : bx1'.length ≤ (B bs).length := by show _ ≤ (bx3.set s _).length; rw [List.length_set]; exact hlen
    show Code.wp _ _ _ _ _
    refine wp_piece (n0 := bx1'.length) (s := ⟨[(0, .bp d 0), (3, .v (.int .i64 0))], B bs⟩) hE0 d_flP8 hlen' (fun ex s' => ex = .ret ∧ s'.bx = (B bs).set m [stH cl []] ∧ get s'.env 2 = .v (.int .i64 0))
      (F_flP8_eq (evFn cx0 ext0 1000) 1000 bx1'.length (.bp d 0) (.v (.int .i64 0)) (B bs)) (by
        have fa := (fa_d d).2.1
        have nl : ∀ d : Nat, nilA (.bp d 0) = some (.bp d 0) := fun _ => rfl
        have l2' := ld_d2 hBd
        have cr : crV (B bs) (.mp m) = some (.v (.tuple #[]), (B bs).set m [stH cl []]) := by
          unfold crV clrM
          simp only [hBm', Option.bind_some, stH]
          rfl
        unfold F_flP8
        have stq := (And.intro (nl) (And.intro (fa) (And.intro (l2') (cr))))
        repeat first
          | ((with_reducible apply ends_bind); case h => first | (simp only [stp, stq]; first | done | rfl) | rfl)
          | ((with_reducible apply ends_t); case h => first | rfl | (simp only [stp, stq]; done))
          | ((with_reducible apply ends_f); case h => first | rfl | (simp only [stp, stq]; done))
        exact ends_some ⟨rfl, rfl, rfl⟩) mx rx' ?_
    rintro ex9 ⟨env9, bx9⟩ ⟨rfl, hb9, h92⟩ x9 w9 β9 e9 m9 r9
    simp only at hb9 h92
    subst hb9
    obtain ⟨v, g1, g2⟩ := results_ok (P := Try.prog) (fn := Try.f10) m9 r9 (r := [.v (.int .i64 0)]) (by show some [get env9 2] = _; rw [h92])
    exact ⟨r9.df, v, g1, v, β9, rfl, (eAll.trans (ex.weaken fun _ _ => rfl)).trans e9, m9, g2⟩
end Go.Sy.Pre

namespace Go.Sy
open Go.Proofs
open Go.Sy.Pr0 (Wt Ws wEs DB DQ dbA dbA_of dbA_inv shw wl)

def intsA : List AV → Option (List Int)
  | [] => some []
  | .v (.int .i64 n) :: r => (intsA r).map fun l => n :: l
  | _ => none
theorem intsA_inv : ∀ {l : List AV} {ks : List Int}, intsA l = some ks → l = ks.map fun n => .v (.int .i64 n)
  | [], ks, h => by simp only [intsA, Option.some.injEq] at h; subst h; rfl
  | .v (.int .i64 n) :: r, ks, h => by
    simp only [intsA, Option.map_eq_some_iff] at h
    obtain ⟨l, h, rfl⟩ := h
    rw [intsA_inv h]
    rfl
def keepA (bx : Bx) (s : Nat) : AV → Option (List Int)
  | .sl kn l _ => (intsA l).bind fun ks => if ks.length = kn then some ks else none
  | .bsl kb 0 kn 1 => if kb = s then none else (bx[kb]?).bind fun l => (intsA l).bind fun ks => if ks.length = kn then some ks else none
  | .v (.slice none 0 0) => some []
  | _ => none
theorem keepA_ok {bx : Bx} {s : Nat} {keep : AV} {ks : List Int} (h : keepA bx s keep = some ks) (bx' : Bx) (hb : ∀ i, i ≠ s → bx'[i]? = bx[i]?) : Pre.Ints bx' keep ks := by
  have hsl : isSl Try.prog 23 = true ∧ elA Try.prog 23 = some 3 ∧ szA Try.prog 3 = some 1 ∧ agA Try.prog 3 = some false := ⟨by kernel_rfl, by kernel_rfl, by kernel_rfl, by kernel_rfl⟩
  unfold keepA at h
  split at h
  · rename_i kn l f
    rw [Option.bind_eq_some_iff] at h
    obtain ⟨k1, h1, h⟩ := h
    split at h
    · rename_i hl
      simp only [Option.some.injEq] at h
      subst h
      have := intsA_inv h1
      subst this
      subst hl
      refine ⟨by kernel_rfl, fun i hi => ⟨.ip ((k1.map fun n => AV.v (.int .i64 n)).drop i) f, ?_, ?_⟩⟩
      · unfold indexAddrA
        simp only [hsl.1, if_true, hsl.2.1, hsl.2.2.1, Option.bind_some, idxI]
        rw [if_pos ⟨by omega, by omega⟩]
        simp
      · unfold loadA partA
        simp only [hsl.2.2.1, hsl.2.2.2]
        simp [hi]
    · simp at h
  · rename_i kb kn
    split at h
    · simp at h
    · rename_i hne
      rw [Option.bind_eq_some_iff] at h
      obtain ⟨l, h0, h⟩ := h
      rw [Option.bind_eq_some_iff] at h
      obtain ⟨k1, h1, h⟩ := h
      split at h
      · rename_i hl
        simp only [Option.some.injEq] at h
        subst h
        have := intsA_inv h1
        subst this
        subst hl
        refine ⟨by kernel_rfl, fun i hi => ⟨.bp kb i, ?_, ?_⟩⟩
        · unfold indexAddrA
          simp only [hsl.1, if_true, hsl.2.1, hsl.2.2.1, Option.bind_some, idxI]
          rw [if_pos ⟨by omega, by omega⟩]
          simp
        · unfold loadA partA
          simp only [hsl.2.2.1, hsl.2.2.2, hb kb hne, h0]
          simp [hi]
      · simp at h
  · simp only [Option.some.injEq] at h
    subst h
    exact ⟨by kernel_rfl, fun i hi => by simp at hi⟩
  · simp at h
theorem Good_all {bx : Bx} (h : bx.all (fun l => eqCs l l) = true) : Pr0.Good bx := fun l hl => List.all_eq_true.1 h l hl
theorem all_Good {bx : Bx} (h : Pr0.Good bx) : bx.all (fun l => eqCs l l) = true := List.all_eq_true.2 h
/-- behind a crash -/
def crC (ks : List Int) (q : DQ) : List UInt8 := Pre.layS (Pre.crBlk ks q.c) q.n q.c q.bs q.ws q.bs
/-- behind a flush -/
def flC (q : DQ) : List UInt8 := Pre.layS Pre.flBlk q.n q.c q.bs q.ws q.bs
theorem crash_snd {bx : Bx} {d : Nat} {q : DQ} (h : dbA bx d = some q) {keep : AV} {ks : List Int} (hk : keepA bx q.s keep = some ks) :
    Sound Try.prog 12 [.bp d 0, keep] bx (.tup []) ((bx.set q.s (u8l (crC ks q))).set q.m [stH q.cl []]) :=
  have D := dbA_inv h
  Pre.crash_sound ⟨D.hd, D.hs, D.hc, D.hm, D.lt, Pre.DB.wok D, ⟨D.ne.1, D.ne.2.2⟩, fun bx' hb => keepA_ok hk bx' hb⟩
noncomputable def flA (bx : Bx) (d : Nat) : Option (AV × Bx) :=
  (evFn Pr0.cx0 Pr0.ext0 1000 25 [.bp d 0, .v (.int .i64 0)] bx).bind fun r => match r.1 with
    | .v (.int .i64 e) => if bx.length ≤ r.2.length then (if e = 0 then (dbA r.2 d).bind fun q => if r.2.all (fun l => eqCs l l) = true then some (.v (.int .i64 0), (r.2.set q.s (u8l (flC q))).set q.m [stH q.cl []]) else none else some (.v (.int .i64 e), r.2)) else none
    | _ => none
theorem flA_ok {bx bx' : Bx} {d : Nat} {r : AV} (h : flA bx d = some (r, bx')) : Sound Try.prog 10 [.bp d 0] bx r bx' := by
  unfold flA at h
  rw [Option.bind_eq_some_iff] at h
  obtain ⟨⟨r0, b0⟩, hu, h⟩ := h
  simp only at h
  split at h
  · rename_i e
    split at h
    · rename_i hlen
      split at h
      · rename_i he
        subst he
        rw [Option.bind_eq_some_iff] at h
        obtain ⟨q, hq, h⟩ := h
        split at h
        · rename_i hg
          simp only [Option.some.injEq, Prod.mk.injEq] at h
          obtain ⟨rfl, rfl⟩ := h
          exact Pre.flush_ok hu hlen (dbA_inv hq) (Good_all hg)
        · simp at h
      · rename_i he
        simp only [Option.some.injEq, Prod.mk.injEq] at h
        obtain ⟨rfl, rfl⟩ := h
        exact Pre.flush_err he hu hlen
    · simp at h
  · simp at h
noncomputable def extD : FnA := fun f args bx =>
  if f = 12 then (match args with
    | [.bp d 0, keep] => (dbA bx d).bind fun q => (keepA bx q.s keep).map fun ks => (.tup [], (bx.set q.s (u8l (crC ks q))).set q.m [stH q.cl []])
    | _ => none)
  else if f = 10 then (match args with
    | [.bp d 0] => flA bx d
    | _ => none)
  else Pr0.ext1 f args bx
theorem extD_ok (f : FuncId) (args : List AV) (bx : Bx) (r : AV) (bx' : Bx) (h : extD f args bx = some (r, bx')) : Sound Try.prog f args bx r bx' := by
  unfold extD at h
  split at h
  · rename_i hf
    subst hf
    split at h
    · rw [Option.bind_eq_some_iff] at h
      obtain ⟨q, hq, h⟩ := h
      rw [Option.map_eq_some_iff] at h
      obtain ⟨ks, hk, h⟩ := h
      simp only [Prod.mk.injEq] at h
      obtain ⟨rfl, rfl⟩ := h
      exact crash_snd hq hk
    · simp at h
  · split at h
    · rename_i hf
      subst hf
      split at h
      · exact flA_ok h
      · simp at h
    · exact Pr0.ext1_ok f args bx r bx' h
/-- what a sector has behind a crash, a flush -/
theorem layS_bk {f : Nat → List UInt8 → List UInt8} {O : Nat → Prop} {bx : Bx} {d s n m cl : Nat} {p : AV} {z : Int} {c : List UInt8} {bs : List Nat} {ws : Ws} (D : DB O bx d s n m cl p z c bs ws) (hf : ∀ q ∈ ws, (f q.1 q.2.2).length = 64) :
    (Pre.layS f n c bs ws bs).length = n * 64 ∧ ∀ k, k < n → bk (Pre.layS f n c bs ws bs) k = if 0 < (wl ws k).length then f k (wl ws k) else bk c k := by
  obtain ⟨h1, h2⟩ := Pre.layS_len (Pre.DB.wok D) D.hc hf bs
  refine ⟨h2, fun k hk => ?_⟩
  rw [show bk (Pre.layS f n c bs ws bs) k = _ from lay_bk n _ h1 k hk]
  cases hs : Pre.sel bs ws bs k with
  | none =>
    have : wl ws k = [] := by
      unfold wl
      cases hq : ws.find? (fun q => q.1 == k) with
      | none => rfl
      | some q =>
        exfalso
        obtain ⟨g1, g2⟩ := Pr0.find_some hq
        obtain ⟨i, hi⟩ := List.getElem?_of_mem g1
        have hlt := (List.getElem?_eq_some_iff.1 hi).1
        have hb : bs[i]? = some (bs[i]'(by rw [D.ln]; exact hlt)) := List.getElem?_eq_getElem (by rw [D.ln]; exact hlt)
        have := List.find?_eq_none.1 hs _ (Pre.at_zip hb hi)
        simp [g2] at this
    rw [this]
    simp
  | some x =>
    have hp := List.find?_some hs
    have hm := List.mem_of_find?_eq_some hs
    simp only [Bool.and_eq_true, beq_iff_eq] at hp
    obtain ⟨i, _, hi⟩ := Pre.zip_at hm
    have hx := List.mem_of_getElem? hi
    have hw := Pre.wl_of D.kn hx
    rw [hp.1] at hw
    obtain ⟨w1, w2, w3, w4, w5⟩ := D.hw _ hx
    rw [hw, if_pos w4]
/-- a disk of which nothing waits any more -/
theorem DB.empty {O : Nat → Prop} {bx : Bx} {d s n m cl : Nat} {p : AV} {z : Int} {c : List UInt8} {bs : List Nat} {ws : Ws} (D : DB O bx d s n m cl p z c bs ws) {c' : List UInt8} (hc' : c'.length = n * 64) :
    DB O ((bx.set s (u8l c')).set m [stH cl []]) d s n m cl p z c' [] [] := by
  have D' := Pre.DB.stb D hc'
  have hne : ∀ i, i ≠ m → ((bx.set s (u8l c')).set m [stH cl []])[i]? = (bx.set s (u8l c'))[i]? := fun i hi => List.getElem?_set_ne (Ne.symm hi)
  exact ⟨by rw [hne d D.ne.2.1]; exact D'.hd, by rw [hne s (Ne.symm D.ne.2.2)]; exact D'.hs, hc', List.getElem?_set_self D'.mlt, by simp, .nil, rfl, by simp, .nil, .nil, D.ne, D.od⟩
theorem Good.empty {bx : Bx} (h : Pr0.Good bx) (s m cl : Nat) (c' : List UInt8) : Pr0.Good ((bx.set s (u8l c')).set m [stH cl []]) := (h.set (eqCs_u8l _) _).set (Pr0.eqCs_map cl [] []) _
end Go.Sy

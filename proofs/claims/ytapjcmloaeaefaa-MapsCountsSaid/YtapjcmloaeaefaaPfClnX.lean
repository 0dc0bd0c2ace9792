/-
  Layer 09: what maps.Clean answers.
-/
import Derived.Test.YtapjcmloaeaefaaPfClnW
namespace Go.Sy.Pre
open Go.Proofs Num Go.Proofs.Ytapjcmloaeaefaa Go.RowKit

theorem hE1 : ∀ f args bx r bx', evFn cx0 ext0 1000 f args bx = some (r, bx') → Sound Try.prog f args bx r bx' := fun f args bx r bx' h => evFn_sound (cx := cx0) ext0_ok 1000 f args bx r bx' h
theorem lg1 (A : List AV) (x y z : Int) (r : Bx) : loadA Try.prog 25 (A :: [.v (.int .i64 x), .v (.int .i64 y), .v (.int .i64 z)] :: r) (.bp 1 0) = some (gV x y z) := by kernel_rfl
theorem bx_g (bx : Bx) (a b c : Int) : boxA bx (gV a b c) = some (.bp bx.length 0, bx ++ [gl a b c]) := by kernel_rfl
theorem lg1' (A : List AV) (x y z : Int) (r : Bx) : loadA Try.prog 25 (A :: gl x y z :: r) (.bp 1 0) = some (gV x y z) := by kernel_rfl
theorem r7_ev (p : List UInt8) (hp : p.length = 54) (a b c : Int) (k : Int) (hk : k = 0 ∨ k = 4) (s : Nat) (hs : s ≤ 1000) (ptr : Value) :
    Ends (F_clR7 (evFn cx0 ext0 1000) 1000 0 (.bp 0 0) (.bp 1 0) (.v (.int .i64 s)) (.v (.int .i64 k)) (.v ptr) [u8l p, gl a b c])
      (fun ex s' => ex = .normal ∧ s'.bx = [u8l p, gl a b c] ∧ get s'.env 5 = .v (.int .i64 ((s + cA p a b c k : Nat))) ∧ get s'.env 2 = .bp 0 0 ∧ get s'.env 3 = .bp 1 0 ∧ get s'.env 11 = .v ptr) := by
  have c1 : cf (evFn cx0 ext0 1000) 28 [.agg (u8l p), .v (.int .i64 k)] = _ := of_ext 999 p hp k
  have c2 : cf (evFn cx0 ext0 1000) 26 [gV a b c, .v (.int .i64 k)] = _ := many_ev 997 a b c k
  have hm := mp_le p k
  have c3 := Count_ev (n := 1000) (mp p k) false (manyN a b c k : Nat) (by omega) (by omega)
  have lL := lds hL (P := Try.prog)
  have lg := fun A r => lg1' A a b c r
  have hca := cA_le p a b c k
  have e1 : IntKind.i64.wrap ((s : Int) + (cnt (mp p k) 0 (lim (mp p k) (manyN a b c k : Nat)) : Nat)) = ((s + cA p a b c k : Nat) : Int) := by
    rw [wrap64]
    unfold cA at hca ⊢
    omega
  unfold F_clR7
  have stq := (And.intro (lL) (And.intro (hp) (And.intro (frz_agg) (And.intro (frz_g) (And.intro (lg) (And.intro (c1) (And.intro (c2) (And.intro (c3) (e1)))))))))
  repeat first
    | ((with_reducible apply ends_bind); case h => first | (simp only [stp, stq]; first | done | rfl) | rfl)
    | ((with_reducible apply ends_t); case h => first | rfl | (simp only [stp, stq]; done))
    | ((with_reducible apply ends_f); case h => first | rfl | (simp only [stp, stq]; done))
  exact ends_some ⟨rfl, rfl, rfl, rfl, rfl, rfl⟩
theorem p8_ev (p : List UInt8) (hp : p.length = 54) (a b c : Int) (s : Nat) :
    Ends (F_clP8 (evFn cx0 ext0 1000) 1000 0 (.bp 0 0) (.v (.int .i64 s)) [u8l p, gl a b c])
      (fun ex s' => ex = .ret ∧ s'.bx = [u8l p, gl a b c] ∧ get s'.env 4 = .v (.bool (decide (s = cT p)))) := by
  have s1 : sliceA Try.prog [u8l p, gl a b c] 23 (.bp 0 0) none none none = some (.bsl 0 0 54 1) := sl_a hL (k := 0) (b := p) rfl hp
  have f1 : frz [u8l p, gl a b c] true 6 (.bsl 0 0 54 1) = byt true p := frz_b8 true (b := p) rfl hp.symm
  have c3 := Count_ev (n := 1000) p true 432 (by omega) (by omega)
  have e1 : ((s : Int) == (cnt p 0 (lim p 432) : Nat)) = decide (s = cT p) := by
    unfold cT
    by_cases h : s = cnt p 0 (lim p 432)
    · rw [decide_eq_true h, h]
      simp
    · rw [decide_eq_false h]
      simp
      omega
  unfold F_clP8
  have stq := (And.intro (s1) (And.intro (f1) (And.intro (c3) (e1))))
  repeat first
    | ((with_reducible apply ends_bind); case h => first | (simp only [stp, stq]; first | done | rfl) | rfl)
    | ((with_reducible apply ends_t); case h => first | rfl | (simp only [stp, stq]; done))
    | ((with_reducible apply ends_f); case h => first | rfl | (simp only [stp, stq]; done))
  exact ends_some ⟨rfl, rfl, rfl⟩
theorem fin_clean {z : Nat} {w' : World} {β : Beta} {bx : Bx} {env : Env} {x : Act} {t : Bool} (hM : MR (Gc z) w' β bx) (hR : ER [] (Gc z) w' β 29 env x) (ht : get env 4 = .v (.bool t)) :
    x.defers = [] ∧ (results Try.f24 x.tmps).run Try.prog w' = .ok (.bool t) w' := by
  obtain ⟨v, g1, g2⟩ := results_ok (P := Try.prog) (fn := Try.f24) hM hR (r := [.v (.bool t)]) (by
    show resL Try.prog env bx [.tmp 4] = _
    simp only [resL, ht, Option.map_some])
  have : v = .bool t := by
    have g3 : VR w' (im (Gc z) w' β) β (.v (.bool t)) v := g2
    cases g3
    rfl
  subst this
  exact ⟨hR.df, g1⟩
theorem ext_below {z : Nat} {W w' : World} {q : Nat → Bool} {β β' : Beta} (h : Ext (Gc z) q W β w' β') (n : Nat) (hn : n ≤ z) (ho : ∀ k, k < n → ¬ owned β k) : Below n W w' :=
  ⟨h.out.1, h.out.2.2, h.out.2.1, h.sz, fun k hk => h.old k (Nat.lt_of_lt_of_le hk hn) (ho k hk)⟩
set_option maxRecDepth 100000 in
theorem clean_calls (p : List UInt8) (hp : p.length = 54) (a b c : Int) (W : World) :
    Calls Try.prog 24 #[.agg (ldC p), .agg (gC a b c)] W fun e w' => e = .returned (.bool (clV p a b c)) ∧ Below W.heap.size W w' := by
  refine calls_of_wp Try.func24 c_all ?_
  have m0 := MR.nil W W.heap.size (Nat.le_refl _)
  have r0 : ER [] (Gc W.heap.size) W [] 29 [(0, .agg (u8l p)), (1, gV a b c)] { tmps := #[Value.agg (ldC p), .agg (gC a b c)] ++ Array.replicate (29 - 2) undef, defers := [] } :=
    ER.start [.agg (u8l p), gV a b c] #[.agg (ldC p), .agg (gC a b c)] rfl (by show 2 ≤ 29; omega) (fun i x v hx hv => by
      rcases i with _ | _ | i
      · simp at hx hv
        subst hx hv
        exact ldC_fit _ _ _ _
      · simp at hx hv
        subst hx hv
        exact gC_fit _ _ _ _ _ _
      · simp at hx)
  have no0 : ∀ k, k < W.heap.size → ¬ owned ([] : Beta) k := fun k _ ⟨b, o, hb⟩ => by simp at hb
  refine wp_seq ?_
  refine wp_piece (n0 := 0) (s := ⟨[(0, .agg (u8l p)), (1, gV a b c)], []⟩) hE1 d_clP0 (Nat.zero_le _) (fun ex s' => ex = .normal ∧ s'.bx = [u8l p, gl a b c] ∧ get s'.env 2 = .bp 0 0 ∧ get s'.env 3 = .bp 1 0 ∧ get s'.env 4 = .v (.bool false))
    (F_clP0_eq (evFn cx0 ext0 1000) 1000 0 (.agg (u8l p)) (gV a b c) []) (by
      have g := bx_g [u8l p] a b c
      unfold F_clP0
      have stq := (And.intro (box_agg) (g))
      repeat first
        | ((with_reducible apply ends_bind); case h => first | (simp only [stp, stq]; first | done | rfl) | rfl)
        | ((with_reducible apply ends_t); case h => first | rfl | (simp only [stp, stq]; done))
        | ((with_reducible apply ends_f); case h => first | rfl | (simp only [stp, stq]; done))
      exact ends_some ⟨rfl, rfl, rfl, rfl, rfl⟩) m0 r0 ?_
  rintro ex ⟨env1, bx1⟩ ⟨rfl, rfl, h2, h3, h4⟩ x1 w1 β1 e1 m1 r1
  have r1' := r1.pick [2, 3, 4]
  simp only [List.map_cons, List.map_nil, h2, h3, h4] at r1'
  refine wp_seq ?_
  by_cases hg : gOk a b c
  · -- the shape is right
    refine wp_piece (n0 := 0) (s := ⟨[(2, .bp 0 0), (3, .bp 1 0), (4, .v (.bool false))], [u8l p, gl a b c]⟩) hE1 d_clP1 (Nat.zero_le _) (fun ex s' => ex = .normal ∧ s'.bx = [u8l p, gl a b c] ∧ get s'.env 2 = .bp 0 0 ∧ get s'.env 3 = .bp 1 0 ∧ get s'.env 4 = .v (.bool false))
      (F_clP1_eq (evFn cx0 ext0 1000) 1000 0 (.bp 0 0) (.bp 1 0) (.v (.bool false)) [u8l p, gl a b c]) (by
        have lg := fun A r => lg1' A a b c r
        have c1 : cf (evFn cx0 ext0 1000) 40 [gV a b c] = _ := Check_ev 998 a b c
        rw [show gE a b c = 0 from if_pos hg] at c1
        have z0 : ((0 : Int) != 0) = false := rfl
        unfold F_clP1
        have stq := (And.intro (lg) (And.intro (frz_g) (And.intro (c1) (z0))))
        repeat first
          | ((with_reducible apply ends_bind); case h => first | (simp only [stp, stq]; first | done | rfl) | rfl)
          | ((with_reducible apply ends_t); case h => first | rfl | (simp only [stp, stq]; done))
          | ((with_reducible apply ends_f); case h => first | rfl | (simp only [stp, stq]; done))
        exact ends_some ⟨rfl, rfl, rfl, rfl, rfl⟩) m1 r1' ?_
    rintro ex ⟨env2, bx2⟩ ⟨rfl, rfl, h2, h3, h4⟩ x2 w2 β2 e2 m2 r2
    have r2' := r2.pick [2, 3, 4]
    simp only [List.map_cons, List.map_nil, h2, h3, h4] at r2'
    refine wp_seq ?_
    refine wp_piece (n0 := 0) (s := ⟨[(2, .bp 0 0), (3, .bp 1 0), (4, .v (.bool false))], [u8l p, gl a b c]⟩) hE1 d_clP3 (Nat.zero_le _) (fun ex s' => ex = .normal ∧ s'.bx = [u8l p, gl a b c] ∧ get s'.env 2 = .bp 0 0 ∧ get s'.env 3 = .bp 1 0 ∧ get s'.env 5 = .v (.int .i64 0))
      (F_clP3_eq (evFn cx0 ext0 1000) 1000 0 (.bp 0 0) (.bp 1 0) (.v (.bool false)) [u8l p, gl a b c]) (ends_some ⟨rfl, rfl, rfl, rfl, rfl⟩) m2 r2' ?_
    rintro ex ⟨env3, bx3⟩ ⟨rfl, rfl, h2, h3, h5⟩ x3 w3 β3 e3 m3 r3
    have r3' := r3.pick [2, 3, 5]
    simp only [List.map_cons, List.map_nil, h2, h3, h5] at r3'
    have e13 := (e1.trans e2).trans e3
    have b3 := ext_below e13 W.heap.size (Nat.le_refl _) no0
    have no3 : ∀ k, k < W.heap.size → ¬ owned β3 k := fun k hk ho => no0 k hk (e13.own' k hk ho)
    refine wp_seq ?_
    refine wp_seq ?_
    -- the map, and its iterator
    rw [c_r4]
    refine wp_region_list ?_
    obtain ⟨o1, o2, ho, p1, p2, p3, p4, p5, p6⟩ := o_r4
    rw [ho]
    refine list_call (f := 41) (args := #[]) (R := fun e w' => e = .returned (.map (some w3.heap.size)) ∧ w' = W3 w3) p3 ?_ (parts_walk w3) ?_
    · obtain ⟨d, op, ty, ps, af, gd⟩ := o1
      simp only at p1
      subst p1
      simp only [execOp, resolve, Act.eval, Deferred.ofValue, Sem.run_bind, Sem.run_pure, Result.andThen_ok, invoke]
      unfold callFunc
      simp only [Sem.run_bind, run_program, Result.andThen_ok, Try.func41]
      rw [if_neg (by decide +kernel), if_neg (by decide +kernel)]
      simp
    rintro e' w' ⟨rfl, rfl⟩
    refine ⟨_, rfl, ?_⟩
    have gW : Below w3.heap.size w3 (W3 w3) := ⟨(Grow.map w3).out.1, (Grow.map w3).out.2.2, (Grow.map w3).out.2.1, (Grow.map w3).sz, (Grow.map w3).old⟩
    obtain ⟨m4, e4⟩ := m3.below gW
    have r4 : ER [] (Gc W.heap.size) (W3 w3) β3 29 [(10, .junk), (2, .bp 0 0), (3, .bp 1 0), (5, .v (.int .i64 0))] (x3.put o1.dst (.map (some w3.heap.size))) := by
      rw [p2]
      exact (r3'.move (fun t y hy => e4.vr hy)).put rfl (.junk _)
    generalize hx4 : x3.put o1.dst (.map (some w3.heap.size)) = x4 at r4 ⊢
    have hx4v : x4.eval (.tmp 10) = .map (some w3.heap.size) := by
      rw [← hx4, p2]
      show (x3.tmps.setIfInBounds 10 _).getD 10 undef = _
      rw [Array.getD_eq_getD_getElem?, Array.getElem?_setIfInBounds_self_of_lt (by rw [r3'.sz]; decide)]
      rfl
    have hrange := run_range_map (P := Try.prog) (W3 w3) 62 3 65 w3.heap.size #[Go.Proofs.Ytapjcmloaeaefaa.e1, Go.Proofs.Ytapjcmloaeaefaa.e2] 2 hmm (Go.Proofs.Ytapjcmloaeaefaa.b3 w3)
    refine list_value (s := Instr.range 62 (.map (some w3.heap.size))) p6 ?_ hrange ?_
    · obtain ⟨d, op, ty, ps, af, gd⟩ := o2
      simp only at p4
      subst p4
      simp only [execOp, hx4v]
    have hsz3 := s3 w3
    have g4 : Below (W3 w3).heap.size (W3 w3) ((W3 w3).alloc (.mapIter (some w3.heap.size) 2 #[] 2)) := (Below.refl _ _).alloc (Nat.le_refl _) _
    obtain ⟨m5, e5⟩ := m4.below g4
    have r5 : ER [] (Gc W.heap.size) ((W3 w3).alloc (.mapIter (some w3.heap.size) 2 #[] 2)) β3 29 [(11, .v (.pointer (some ⟨w3.heap.size + 1, 0, none⟩))), (10, .junk), (2, .bp 0 0), (3, .bp 1 0), (5, .v (.int .i64 0))] (x4.put o2.dst (.pointer (some ⟨(W3 w3).heap.size, 0, none⟩))) := by
      rw [p5, hsz3]
      exact (r4.move (fun t y hy => e5.vr hy)).put rfl (.v _)
    have hit : ((W3 w3).alloc (.mapIter (some w3.heap.size) 2 #[] 2)).heap[w3.heap.size + 1]? = some (.mapIter (some w3.heap.size) 2 #[] 2) := by
      rw [← hsz3]
      exact heap_alloc_new _ _
    have hmp : ((W3 w3).alloc (.mapIter (some w3.heap.size) 2 #[] 2)).heap[w3.heap.size]? = some (.map #[Go.Proofs.Ytapjcmloaeaefaa.e1, Go.Proofs.Ytapjcmloaeaefaa.e2] 2) := by
      rw [heap_alloc_old _ _ (by rw [hsz3]; omega)]
      exact Go.Proofs.Ytapjcmloaeaefaa.b3 w3
    have hsz5 : ((W3 w3).alloc (.mapIter (some w3.heap.size) 2 #[] 2)).heap.size = w3.heap.size + 2 := by rw [World.size_alloc, hsz3]
    have nor : ∀ k, w3.heap.size ≤ k → ¬ owned β3 k := fun k hk ⟨b', o', hb'⟩ => by
      have := m3.blt hb'
      omega
    have bw : Below W.heap.size W ((W3 w3).alloc (.mapIter (some w3.heap.size) 2 #[] 2)) := (b3.trans (gW.mono b3.size)).trans (g4.mono (by rw [hsz3]; have := b3.size; omega))
    have hWr : W.heap.size ≤ w3.heap.size := b3.size
    generalize (W3 w3).alloc (.mapIter (some w3.heap.size) 2 #[] 2) = w5 at m5 e5 r5 hit hmp hsz5 bw ⊢
    generalize x4.put o2.dst (.pointer (some ⟨(W3 w3).heap.size, 0, none⟩)) = x5 at r5 ⊢
    have r5' := r5.pick [2, 3, 5, 11]
    have r5'' : ER [] (Gc W.heap.size) w5 β3 29 [(2, .bp 0 0), (3, .bp 1 0), (5, .v (.int .i64 0)), (11, .v (.pointer (some ⟨w3.heap.size + 1, 0, none⟩)))] x5 := r5'
    have m6 : MR (Gc (w3.heap.size + 2)) w5 β3 [u8l p, gl a b c] := m5.regh (fun b' l hl x hx => by
      rcases b' with _ | _ | b'
      · simp at hl
        subst hl
        unfold u8l at hx
        obtain ⟨y, _, rfl⟩ := List.mem_map.1 hx
        exact ⟨_, rfl⟩
      · simp at hl
        subst hl
        simp [gl] at hx
        rcases hx with rfl | rfl | rfl <;> exact ⟨_, rfl⟩
      · simp at hl) (by rw [hsz5]; exact Nat.le_refl _) (fun _ h => h) (fun _ h => h.elim)
    have r6 : ER [] (Gc (w3.heap.size + 2)) w5 β3 29 [(2, .bp 0 0), (3, .bp 1 0), (5, .v (.int .i64 0)), (11, .v (.pointer (some ⟨w3.heap.size + 1, 0, none⟩)))] x5 := r5''.regh rfl
    show Code.wp _ _ _ _ _
    rw [c_blk]
    refine wp_block ?_
    refine wp_rounds (fun n x w => ∃ (β : Beta) (seen : Array Nat) (s : Nat), MR (Gc (w3.heap.size + 2)) w β [u8l p, gl a b c] ∧ ER [] (Gc (w3.heap.size + 2)) w β 29 [(2, .bp 0 0), (3, .bp 1 0), (5, .v (.int .i64 s)), (11, .v (.pointer (some ⟨w3.heap.size + 1, 0, none⟩)))] x ∧
      w.heap[w3.heap.size + 1]? = some (.mapIter (some w3.heap.size) 2 seen 2) ∧ w.heap[w3.heap.size]? = some (.map #[Go.Proofs.Ytapjcmloaeaefaa.e1, Go.Proofs.Ytapjcmloaeaefaa.e2] 2) ∧ ¬ owned β (w3.heap.size + 1) ∧ ¬ owned β w3.heap.size ∧ Below W.heap.size W w ∧ (∀ k, k < W.heap.size → ¬ owned β k) ∧
      stg (cA p a b c 0) (cA p a b c 4) n seen s) (n := 2) ⟨β3, #[], 0, m6, r6, hit, hmp, nor _ (by omega), nor _ (by omega), bw, no3, .inl ⟨rfl, rfl, rfl⟩⟩ ?_
    rintro n x w ⟨β, seen, s, mj, rj, hi, hm, nr, nm, bj, nj, hst⟩
    have hA := cA_le p a b c 0
    have hB := cA_le p a b c 4
    have hs : s ≤ 256 := by
      rcases hst with ⟨_, _, h⟩ | ⟨_, _, h⟩ | ⟨_, _, h⟩ | ⟨_, _, h⟩ | ⟨_, _, h⟩ <;> omega
    rw [c_b]
    refine wp_seq ?_
    rw [c_r5]
    refine wp_region_list ?_
    obtain ⟨o1, o2, ho, p1, p2, p3, p4, p5, p6⟩ := o_r5
    rw [ho]
    have hx11 : x.eval (.tmp 11) = .pointer (some ⟨w3.heap.size + 1, 0, none⟩) := by
      have := rj.opnd (.tmp 11)
      have h' : Sy.opnd [(2, .bp 0 0), (3, .bp 1 0), (5, .v (.int .i64 (s : Int))), (11, AV.v (.pointer (some ⟨w3.heap.size + 1, 0, none⟩)))] (.tmp 11) = .v (.pointer (some ⟨w3.heap.size + 1, 0, none⟩)) := rfl
      rw [h'] at this
      generalize x.eval (.tmp 11) = y at this ⊢
      cases this
      rfl
    rcases next_at w (w3.heap.size + 1) w3.heap.size seen o1.type hi hm with ⟨h0, hrun⟩ | ⟨e, hel, w1', q1, q2, q3, q4, hrun⟩
    · -- nothing is left
      have htot := stg_end hst h0
      refine list_value (s := Instr.next (.pointer (some ⟨w3.heap.size + 1, 0, none⟩)) false o1.type) p3 ?_ hrun ?_
      · obtain ⟨d, op, ty, ps, af, gd⟩ := o1
        simp only at p1
        subst p1
        simp only [execOp, hx11]
      have ra : ER [] (Gc (w3.heap.size + 2)) w β 29 [(12, .tup [.v (.bool false)]), (2, .bp 0 0), (3, .bp 1 0), (5, .v (.int .i64 s)), (11, .v (.pointer (some ⟨w3.heap.size + 1, 0, none⟩)))] (x.put o1.dst (.tuple #[.bool false])) := by
        rw [p2]
        exact rj.put rfl (.tup _ _ rfl (fun i x y hx hy => by
          rcases i with _ | i
          · simp at hx hy
            subst hx hy
            exact .v _
          · simp at hx))
      refine list_ops (n0 := 0) hE1 (md := md0) (ops := opsC c_clR5) [o2] (env' := [(13, .v (.bool false)), (12, .tup [.v (.bool false)]), (2, .bp 0 0), (3, .bp 1 0), (5, .v (.int .i64 s)), (11, .v (.pointer (some ⟨w3.heap.size + 1, 0, none⟩)))]) (bx' := [u8l p, gl a b c]) ?_ mj ra ?_
      · simp only [evOps, if_true, wantA, p6, evOp, p4, p5]
        rfl
      intro x' w' β' ex' mx rx
      refine wp_seq ?_
      rw [c_c]
      have hc13 : x'.eval (.tmp 13) = .bool false := by
        have := rx.opnd (.tmp 13)
        generalize x'.eval (.tmp 13) = y at this ⊢
        have h' : VR w' (im (Gc (w3.heap.size + 2)) w' β') β' (.v (.bool false)) y := this
        cases h'
        rfl
      refine wp_cond_false hc13 ?_
      refine wp_exit ?_
      have bx' := ext_below ex' W.heap.size (by have := b3.size; omega) nj
      have rx' := rx.pick [2, 5]
      show Code.wp _ _ _ _ _
      refine wp_piece (n0 := 0) (s := ⟨[(2, .bp 0 0), (5, .v (.int .i64 s))], [u8l p, gl a b c]⟩) hE1 d_clP8 (Nat.zero_le _) _
        (F_clP8_eq (evFn cx0 ext0 1000) 1000 0 (.bp 0 0) (.v (.int .i64 s)) [u8l p, gl a b c]) (p8_ev p hp a b c s) mx rx' ?_
      rintro ex ⟨env9, bx9⟩ ⟨rfl, rfl, h4⟩ x9 w9 β9 e9 m9 r9
      have hf := fin_clean m9 r9 h4
      have hno : ∀ k, k < W.heap.size → ¬ owned β' k := fun k hk ho => nj k hk (ex'.own' k (show k < w3.heap.size + 2 by omega) ho)
      refine ⟨hf.1, _, hf.2, ?_, (bj.trans bx').trans (ext_below e9 W.heap.size (by have := b3.size; omega) hno)⟩
      unfold clV
      rw [if_pos hg, htot]
    · -- an entry has come
      obtain ⟨k, hk, hkey, hn, hst', hfind⟩ := stg_next hst e hel
      refine list_value (s := Instr.next (.pointer (some ⟨w3.heap.size + 1, 0, none⟩)) false o1.type) p3 ?_ hrun ?_
      · obtain ⟨d, op, ty, ps, af, gd⟩ := o1
        simp only at p1
        subst p1
        simp only [execOp, hx11]
      rw [q1]
      have hrlt : w3.heap.size + 1 < w.heap.size := (Array.getElem?_eq_some_iff.1 hi).1
      obtain ⟨w2', hw2⟩ : ∃ w2' : World, { w1' with heap := w.heap.setIfInBounds (w3.heap.size + 1) (.mapIter (some w3.heap.size) 2 (seen.push e.born) 2) } = w2' := ⟨_, rfl⟩
      have hh : w2'.heap = w.heap.setIfInBounds (w3.heap.size + 1) (.mapIter (some w3.heap.size) 2 (seen.push e.born) 2) := by rw [← hw2]
      have ho2 : w2'.os = w.os ∧ w2'.output = w.output ∧ w2'.tape = w.tape := by rw [← hw2]; exact ⟨q2, q3, q4⟩
      rw [hw2]
      have hh2 : ∀ j, j ≠ w3.heap.size + 1 → w2'.heap[j]? = w.heap[j]? := fun j hj => by rw [hh, Array.getElem?_setIfInBounds_ne (Ne.symm hj)]
      have hi2 : w2'.heap[w3.heap.size + 1]? = some (.mapIter (some w3.heap.size) 2 (seen.push e.born) 2) := by rw [hh, Array.getElem?_setIfInBounds_self_of_lt hrlt]
      have hm2 : w2'.heap[w3.heap.size]? = some (.map #[Go.Proofs.Ytapjcmloaeaefaa.e1, Go.Proofs.Ytapjcmloaeaefaa.e2] 2) := by rw [hh2 _ (by omega), hm]
      obtain ⟨mt, vt⟩ := mj.turn (w' := w2') (r := w3.heap.size + 1) (by omega) nr (by rw [hh, Array.size_setIfInBounds]) hh2
      have bt : Below W.heap.size W w2' := bj.trans ⟨ho2.1, ho2.2.2, ho2.2.1, by rw [hh, Array.size_setIfInBounds]; exact Nat.le_refl _, fun j hj => hh2 j (by omega)⟩
      have ra : ER [] (Gc (w3.heap.size + 2)) w2' β 29 [(12, .tup [.v (.bool true), .v e.key, .junk]), (2, .bp 0 0), (3, .bp 1 0), (5, .v (.int .i64 s)), (11, .v (.pointer (some ⟨w3.heap.size + 1, 0, none⟩)))] (x.put o1.dst (.tuple #[.bool true, e.key, e.val])) := by
        rw [p2]
        exact (rj.move (fun t y hy => vt hy)).put rfl (.tup _ _ rfl (fun i x y hx hy => by
          rcases i with _ | _ | _ | i
          · simp at hx hy
            subst hx hy
            exact .v _
          · simp at hx hy
            subst hx hy
            exact .v _
          · simp at hx hy
            subst hx hy
            exact .junk _
          · simp at hx))
      refine list_ops (n0 := 0) hE1 (md := md0) (ops := opsC c_clR5) [o2] (env' := [(13, .v (.bool true)), (12, .tup [.v (.bool true), .v e.key, .junk]), (2, .bp 0 0), (3, .bp 1 0), (5, .v (.int .i64 s)), (11, .v (.pointer (some ⟨w3.heap.size + 1, 0, none⟩)))]) (bx' := [u8l p, gl a b c]) ?_ mt ra ?_
      · simp only [evOps, if_true, wantA, p6, evOp, p4, p5]
        rfl
      intro x' w' β' ex' mx rx
      have hi3 : w'.heap[w3.heap.size + 1]? = some (.mapIter (some w3.heap.size) 2 (seen.push e.born) 2) := (ex'.old _ (show w3.heap.size + 1 < w3.heap.size + 2 by omega) nr).trans hi2
      have hm3 : w'.heap[w3.heap.size]? = some (.map #[Go.Proofs.Ytapjcmloaeaefaa.e1, Go.Proofs.Ytapjcmloaeaefaa.e2] 2) := (ex'.old _ (show w3.heap.size < w3.heap.size + 2 by omega) nm).trans hm2
      refine wp_seq ?_
      rw [c_c]
      have hc13 : x'.eval (.tmp 13) = .bool true := by
        have := rx.opnd (.tmp 13)
        generalize x'.eval (.tmp 13) = y at this ⊢
        have h' : VR w' (im (Gc (w3.heap.size + 2)) w' β') β' (.v (.bool true)) y := this
        cases h'
        rfl
      refine wp_cond_true hc13 ?_
      refine wp_skip ?_
      show Code.wp _ _ _ _ _
      refine wp_block ?_
      refine wp_seq ?_
      rw [c_r6]
      refine wp_region_list ?_
      obtain ⟨o1, o2, o3, ho, p1, p2, p3, p4, p5, p6, p7, p8, p9⟩ := o_r6
      rw [ho]
      have rx' := rx.pick [2, 3, 5, 11]
      have hx11 : x'.eval (.tmp 11) = .pointer (some ⟨w3.heap.size + 1, 0, none⟩) := by
        have := rx'.opnd (.tmp 11)
        generalize x'.eval (.tmp 11) = y at this ⊢
        have h' : VR w' (im (Gc (w3.heap.size + 2)) w' β') β' (.v (.pointer (some ⟨w3.heap.size + 1, 0, none⟩))) y := this
        cases h'
        rfl
      have hent := entry_at w' (w3.heap.size + 1) w3.heap.size seen e.born e hi3 hm3 hfind
      refine list_value (s := Instr.entry (.pointer (some ⟨w3.heap.size + 1, 0, none⟩))) p3 ?_ hent ?_
      · obtain ⟨d, op, ty, ps, af, gd⟩ := o1
        simp only at p1
        subst p1
        simp only [execOp, hx11]
      have rb : ER [] (Gc (w3.heap.size + 2)) w' β' 29 [(14, .tup [.v e.key, .junk]), (2, .bp 0 0), (3, .bp 1 0), (5, .v (.int .i64 s)), (11, .v (.pointer (some ⟨w3.heap.size + 1, 0, none⟩)))] (x'.put o1.dst (.tuple #[e.key, e.val])) := by
        rw [p2]
        exact rx'.put rfl (.tup _ _ rfl (fun i x y hx hy => by
          rcases i with _ | _ | i
          · simp at hx hy
            subst hx hy
            exact .v _
          · simp at hx hy
            subst hx hy
            exact .junk _
          · simp at hx))
      rw [hkey] at rb
      refine list_ops (n0 := 0) hE1 (md := md0) (ops := opsC c_clR6) [o2, o3] (env' := [(6, .v (.int .i64 k)), (15, .v (.int .i64 k)), (14, .tup [.v (.int .i64 k), .junk]), (2, .bp 0 0), (3, .bp 1 0), (5, .v (.int .i64 s)), (11, .v (.pointer (some ⟨w3.heap.size + 1, 0, none⟩)))]) (bx' := [u8l p, gl a b c]) ?_ mx (by rw [hkey]; exact rb) ?_
      · simp only [evOps, if_true, wantA, p6, evOp, p4, p5, p7, p8, p9]
        rfl
      intro x6 w6 β6 ex6 mx6 rx6
      have rx6' := rx6.pick [2, 3, 5, 6, 11]
      show Code.wp _ _ _ _ _
      refine wp_piece (n0 := 0) (s := ⟨[(2, .bp 0 0), (3, .bp 1 0), (5, .v (.int .i64 s)), (6, .v (.int .i64 k)), (11, .v (.pointer (some ⟨w3.heap.size + 1, 0, none⟩)))], [u8l p, gl a b c]⟩) hE1 d_clR7 (Nat.zero_le _) _
        (F_clR7_eq (evFn cx0 ext0 1000) 1000 0 (.bp 0 0) (.bp 1 0) (.v (.int .i64 s)) (.v (.int .i64 k)) (.v (.pointer (some ⟨w3.heap.size + 1, 0, none⟩))) [u8l p, gl a b c]) (r7_ev p hp a b c k hk s (by omega) _) mx6 rx6' ?_
      rintro ex ⟨env9, bx9⟩ ⟨rfl, rfl, h5, h2, h3, h11⟩ x9 w9 β9 e9 m9 r9
      have r9' := r9.pick [2, 3, 5, 11]
      simp only [List.map_cons, List.map_nil, h5, h2, h3, h11] at r9'
      have nr6 : ¬ owned β6 (w3.heap.size + 1) := fun ho => nr (ex'.own' _ (show w3.heap.size + 1 < w3.heap.size + 2 by omega) (ex6.own' _ (show w3.heap.size + 1 < w3.heap.size + 2 by omega) ho))
      have nm6 : ¬ owned β6 w3.heap.size := fun ho => nm (ex'.own' _ (show w3.heap.size < w3.heap.size + 2 by omega) (ex6.own' _ (show w3.heap.size < w3.heap.size + 2 by omega) ho))
      have nj6 : ∀ k, k < W.heap.size → ¬ owned β6 k := fun k hk ho => nj k hk (ex'.own' k (show k < w3.heap.size + 2 by omega) (ex6.own' k (show k < w3.heap.size + 2 by omega) ho))
      have nr' : ¬ owned β' (w3.heap.size + 1) := fun ho => nr (ex'.own' _ (show w3.heap.size + 1 < w3.heap.size + 2 by omega) ho)
      have nm' : ¬ owned β' w3.heap.size := fun ho => nm (ex'.own' _ (show w3.heap.size < w3.heap.size + 2 by omega) ho)
      have nj' : ∀ k, k < W.heap.size → ¬ owned β' k := fun k hk ho => nj k hk (ex'.own' k (show k < w3.heap.size + 2 by omega) ho)
      have hz : W.heap.size ≤ w3.heap.size + 2 := by omega
      refine ⟨n - 1, by omega, β9, seen.push e.born, s + cA p a b c k, m9, r9', ?_, ?_, fun ho => nr6 (e9.own' _ (show w3.heap.size + 1 < w3.heap.size + 2 by omega) ho), fun ho => nm6 (e9.own' _ (show w3.heap.size < w3.heap.size + 2 by omega) ho), ?_, fun k hk ho => nj6 k hk (e9.own' k (show k < w3.heap.size + 2 by omega) ho), ?_⟩
      · exact (e9.old _ (show w3.heap.size + 1 < w3.heap.size + 2 by omega) nr6).trans ((ex6.old _ (show w3.heap.size + 1 < w3.heap.size + 2 by omega) nr').trans hi3)
      · exact (e9.old _ (show w3.heap.size < w3.heap.size + 2 by omega) nm6).trans ((ex6.old _ (show w3.heap.size < w3.heap.size + 2 by omega) nm').trans hm3)
      · exact ((bt.trans (ext_below ex' W.heap.size hz nj)).trans (ext_below ex6 W.heap.size hz nj')).trans (ext_below e9 W.heap.size hz nj6)
      · rcases hk with rfl | rfl
        · exact hst'
        · exact hst'
  · refine wp_piece (n0 := 0) (s := ⟨[(2, .bp 0 0), (3, .bp 1 0), (4, .v (.bool false))], [u8l p, gl a b c]⟩) hE1 d_clP1 (Nat.zero_le _) (fun ex s' => ex = .ret ∧ s'.bx = [u8l p, gl a b c] ∧ get s'.env 4 = .v (.bool false))
      (F_clP1_eq (evFn cx0 ext0 1000) 1000 0 (.bp 0 0) (.bp 1 0) (.v (.bool false)) [u8l p, gl a b c]) (by
        have lg := fun A r => lg1' A a b c r
        have c1 : cf (evFn cx0 ext0 1000) 40 [gV a b c] = _ := Check_ev 998 a b c
        rw [show gE a b c = 2 from if_neg hg] at c1
        have z0 : ((2 : Int) != 0) = true := rfl
        unfold F_clP1
        have stq := (And.intro (lg) (And.intro (frz_g) (And.intro (c1) (z0))))
        repeat first
          | ((with_reducible apply ends_bind); case h => first | (simp only [stp, stq]; first | done | rfl) | rfl)
          | ((with_reducible apply ends_t); case h => first | rfl | (simp only [stp, stq]; done))
          | ((with_reducible apply ends_f); case h => first | rfl | (simp only [stp, stq]; done))
        exact ends_some ⟨rfl, rfl, rfl⟩) m1 r1' ?_
    rintro ex ⟨env2, bx2⟩ ⟨rfl, rfl, h4⟩ x2 w2 β2 e2 m2 r2
    have hf := fin_clean m2 r2 h4
    refine ⟨hf.1, _, hf.2, ?_, ext_below (e1.trans e2) W.heap.size (Nat.le_refl _) no0⟩
    unfold clV
    rw [if_neg hg]
end Go.Sy.Pre

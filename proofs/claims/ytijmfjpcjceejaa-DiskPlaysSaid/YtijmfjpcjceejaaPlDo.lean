/-
  Layer 04: an act, to both disks. Layer 04: an act that loads what is stable, a block at a place.
-/
import Derived.Test.YtijmfjpcjceejaaPlX
import Derived.Test.YtijmfjpcjceejaaLwFls
namespace Go.Sy
open Go.Proofs
open Go.Sy.Pr0 (nilP)

theorem ac_box (A : Ac) : boxI (.agg (ac A)) = some (.ip (ac A) true) := by
  have h : (AV.agg (ac A)).okc = true ∧ (AV.agg (ac A)).cells.all AV.still = true := by
    refine ⟨rfl, ?_⟩
    show (ac A).all AV.still = true
    simp only [ac, u8l, List.all_cons, List.all_append, List.all_map, AV.still, Bool.true_and, List.all_nil, Bool.and_true]
    exact List.all_eq_true.2 fun _ _ => rfl
  unfold boxI
  rw [if_pos h]
  rfl
theorem ac_fi : fiA Try.prog 34 0 = some (0, 3) ∧ fiA Try.prog 34 1 = some (1, 3) ∧ fiA Try.prog 34 2 = some (2, 32) ∧ fiA Try.prog 34 3 = some (66, 23) := ⟨by kernel_rfl, by kernel_rfl, by kernel_rfl, by kernel_rfl⟩
theorem ac_sz : szA Try.prog 3 = some 1 ∧ agA Try.prog 3 = some false ∧ szA Try.prog 32 = some 64 ∧ agA Try.prog 32 = some true ∧ szA Try.prog 23 = some 1 ∧ agA Try.prog 23 = some false := ⟨by kernel_rfl, by kernel_rfl, by kernel_rfl, by kernel_rfl, by kernel_rfl, by kernel_rfl⟩
theorem ac_fa (l : List AV) : fieldAddrA Try.prog 34 (.ip l true) 0 = some (.ip (l.drop 0) true) ∧ fieldAddrA Try.prog 34 (.ip l true) 1 = some (.ip (l.drop 1) true) ∧ fieldAddrA Try.prog 34 (.ip l true) 2 = some (.ip (l.drop 2) true) ∧ fieldAddrA Try.prog 34 (.ip l true) 3 = some (.ip (l.drop 66) true) := by
  unfold fieldAddrA
  simp only [ac_fi.1, ac_fi.2.1, ac_fi.2.2.1, ac_fi.2.2.2, Option.bind_some, ac_sz.1, ac_sz.2.2.1, ac_sz.2.2.2.2.1]
  exact ⟨rfl, rfl, rfl, rfl⟩
theorem ac_ld (A : Ac) (hb : A.b.length = 64) (bx : Bx) : loadA Try.prog 3 bx (.ip ((ac A).drop 0) true) = some (.v (.int .i64 A.dd)) ∧ loadA Try.prog 3 bx (.ip ((ac A).drop 1) true) = some (.v (.int .i64 A.at_)) ∧
    loadA Try.prog 32 bx (.ip ((ac A).drop 2) true) = some (.agg (u8l A.b)) ∧ loadA Try.prog 23 bx (.ip ((ac A).drop 66) true) = some (.sl A.ks.length (il A.ks) true) := by
  unfold loadA partA
  simp only [ac_sz.1, ac_sz.2.1, ac_sz.2.2.1, ac_sz.2.2.2.1, ac_sz.2.2.2.2.1, ac_sz.2.2.2.2.2]
  refine ⟨rfl, rfl, ?_, ?_⟩
  · have hd : (ac A).drop 2 = u8l A.b ++ [AV.sl A.ks.length (il A.ks) true] := by simp [ac]
    rw [hd, if_pos (by simp [u8l_len, hb]), List.drop_zero, List.take_left' (by rw [u8l_len, hb])]
  · have hd : (ac A).drop 66 = [AV.sl A.ks.length (il A.ks) true] := by
      have : (ac A).drop 66 = (u8l A.b ++ [AV.sl A.ks.length (il A.ks) true]).drop 64 := rfl
      rw [this, List.drop_left' (by rw [u8l_len, hb])]
    rw [hd]
    rfl
theorem ints_ev (m : Nat) (ks : List Int) (h : ks.length * 8 ≤ 2 ^ 47) (f : Bool) : cf (evFn cx0 ext0 (m + 1)) 31 [.sl ks.length (il ks) f] = some (.sl ks.length (il ks) false) := by
  have h1 : isSl Try.prog 23 = true ∧ elA Try.prog 23 = some 3 ∧ szA Try.prog 3 = some 1 ∧ byA Try.prog 3 = some 8 ∧ zcA Try.prog 3 = some [.v (.int .i64 0)] := ⟨by kernel_rfl, by kernel_rfl, by kernel_rfl, by kernel_rfl, by kernel_rfl⟩
  have hk : ∀ ks : List Int, (il ks).map (AV.keep (· != 1)) = il ks := fun ks => by simp [il, AV.keep]
  have hf : ∀ (bx : Bx) (ks : List Int), (il ks).map (frz bx false 5) = il ks := fun bx ks => by simp [il, frz]
  have b0 : buildSliceA Try.prog [[]] 23 0 [] = some (.bsl 1 0 0 1, [[], []]) := by kernel_rfl
  have a0 : appA Try.prog 0 [[], []] 23 (.bsl 1 0 0 1) (.sl ks.length (il ks) f) = some (.bsl 1 0 ks.length 1, AV.keep (· != 1), [[], il ks]) := by
    unfold appA
    have rd : readA [[], []] (.sl ks.length (il ks) f) = some (ks.length, il ks) := rfl
    simp only [h1.1, if_true, h1.2.1, h1.2.2.1, h1.2.2.2.1, h1.2.2.2.2, Option.bind_some, rd]
    rw [if_pos ⟨by rw [il_len]; omega, by omega, rfl, by omega, by omega, by omega⟩]
    have g : ([[], []] : Bx)[1]? = some [] := rfl
    simp only [g, Option.bind_some]
    rw [if_pos ⟨trivial, by omega, by simp, .inl trivial, by omega⟩]
    simp only [Nat.zero_add, List.nil_append, hk, ite_self]
    rfl
  unfold cf
  rw [E_base_Ints]
  refine ends_cf (P := Try.prog) ?_
  unfold F_base_Ints
  refine ends_bind _ rfl ?_
  refine ends_bind _ b0 ?_
  refine ends_bind _ a0 ?_
  refine ends_some ⟨.inl rfl, _, rfl, ?_⟩
  show (match ([[], il ks] : Bx)[1]? with | some l => AV.sl ks.length (((l.drop 0).take (ks.length * 1)).map (frz [[], il ks] false 5)) false | none => .junk) = _
  show AV.sl ks.length ((((il ks).drop 0).take (ks.length * 1)).map (frz [[], il ks] false 5)) false = _
  rw [List.drop_zero, List.take_of_length_le (by rw [il_len]; omega), hf]
section
variable {I : Ids} {bx : Bx} {a : St}
abbrev doA (I : Ids) (A : Ac) : List AV := [.bp I.d 0, .bp I.ry 0, .bp I.ps 0, .bp I.rq 0, .agg (ac A)]
/-- what an act comes to -/
def DoR (k : Nat) (I : Ids) (bx : Bx) (A : Ac) (t : Nat) : Prop := ∃ bx' a', evFn cx0 ext0 (k + 1) 22 (doA I A) bx = some (.v (.bool true), bx') ∧ J I bx' a' a' ∧ ∀ j, (a'.w j).length ≤ 64 * (t + 1)
theorem do_am {k c : Nat} {A : Ac} (h : cf (evFn cx0 ext0 (k + 2)) 9 [.v (.int .i64 A.dd), .v (.int .i64 11)] = some (.v (.int .i64 c))) (y : Bx) :
    callA (evFn cx0 ext0 (k + 2)) md_l04_do y 9 [.v (.int .i64 A.dd), .v (.int .i64 11)] = some (.v (.int .i64 c), y) := by
  rw [callA_frozen rfl]
  show (cf (evFn cx0 ext0 (k + 2)) 9 [.v (.int .i64 A.dd), .v (.int .i64 11)]).map _ = _
  rw [h]
  rfl
theorem wr_w {a : St} {t n : Nat} (hw : ∀ j, (a.w j).length ≤ 64 * t) (i : Int) {b : List UInt8} (hb : b.length = 64) (j : Nat) : ((a.wr n i b).2.w j).length ≤ 64 * (t + 1) := by
  have h1 := hw j
  have h2 := hw i.toNat
  unfold St.wr
  split
  · split
    · simp only
      split
      · rw [List.length_append]; omega
      · omega
    · show (a.w j).length ≤ _; omega
  · simp only; omega
theorem fo_w {a : St} {t n : Nat} (hw : ∀ j, (a.w j).length ≤ 64 * t) (i : Int) (b : List UInt8) (j : Nat) : ((a.fo n i b).2.w j).length ≤ 64 * (t + 1) := by
  have h1 := hw j
  unfold St.fo
  split
  · split
    · simp only
      split
      · simp
      · omega
    · show (a.w j).length ≤ _; omega
  · simp only; omega
theorem do_force {k t : Nat} (hJ : J I bx a a) {A : Ac} (hA : A.b.length = 64) (hw : ∀ j, (a.w j).length ≤ 64 * t)
    (h : cf (evFn cx0 ext0 (k + 2)) 9 [.v (.int .i64 A.dd), .v (.int .i64 11)] = some (.v (.int .i64 (5 : Nat)))) : DoR (k + 2) I bx A t := by
  obtain ⟨T, R, X, Y, hd, hg⟩ := hJ
  have bi := ac_box A
  have fa := ac_fa (ac A)
  have ld := ac_ld A hA
  have am := do_am h
  have ap : ∀ l : List AV, apartV .ns (.ip l true) = true := fun _ => rfl
  obtain ⟨bx1, e1, X1, S1⟩ := xforce (k + 1) X A.at_ hA
  have Y1 := Y.frame (fun j hj hl => S1.fr j hl fun ht => hd j ht hj) S1.len
  obtain ⟨bx2, e2, Y2, S2⟩ := yforce k Y1 A.at_ hA
  have c1 : callA (evFn cx0 ext0 (k + 2)) md_l04_do bx 14 [.bp I.d 0, .v (.int .i64 A.at_), .agg (u8l A.b)] = some (.v (.int .i64 (a.fo I.n A.at_ A.b).1), bx1) := by rw [Pr0.call_k rfl]; exact e1
  have c2 : callA (evFn cx0 ext0 (k + 2)) md_l04_do bx1 29 [.bp I.ry 0, .v (.int .i64 A.at_), .agg (u8l A.b)] = some (.v (.int .i64 (a.fo I.n A.at_ A.b).1), bx2) := by rw [Pr0.call_k rfl]; exact e2
  refine ⟨bx2, _, ?_, J.y X1 Y2 (fun j hj hr => by rcases S1.nw j hj with h | h; exact hd j h hr; have := Y.lt j hr; omega) (S1.gd hg) S2, fo_w hw _ _⟩
  have g5 : (((5 : Nat) : Int) == 5) = true := rfl
  have ee := beq_self_eq_true (a.fo I.n A.at_ A.b).1
  generalize (a.fo I.n A.at_ A.b).1 = e at *
  show evFn cx0 ext0 (k + 2 + 1) 22 [.bp I.d 0, .bp I.ry 0, .bp I.ps 0, .bp I.rq 0, .agg (ac A)] bx = _
  generalize ac A = L at *
  rw [E_l04_do]
  refine ends_fin (P := Try.prog) ?_
  unfold F_l04_do
  have stq := (And.intro (bi) (And.intro (fa) (And.intro (ld) (And.intro (am) (And.intro (ap) (And.intro (g5) (And.intro (c1) (And.intro (c2) (ee)))))))))
  repeat first
    | ((with_reducible apply ends_bind); case h => first | (simp only [stp, stq]; first | done | rfl) | rfl)
    | ((with_reducible apply ends_t); case h => first | rfl | (simp only [stp, stq]; done))
    | ((with_reducible apply ends_f); case h => first | rfl | (simp only [stp, stq]; done))
  exact ends_some ⟨.inl rfl, _, rfl, rfl⟩
theorem do_write {k t : Nat} (hJ : J I bx a a) {A : Ac} (hA : A.b.length = 64) (ht : t < 60) (hw : ∀ j, (a.w j).length ≤ 64 * t) {c : Nat} (hc : c ≠ 5 ∧ c ≠ 6 ∧ c ≠ 7 ∧ c ≠ 8 ∧ c ≠ 9 ∧ c ≠ 10)
    (h : cf (evFn cx0 ext0 (k + 2)) 9 [.v (.int .i64 A.dd), .v (.int .i64 11)] = some (.v (.int .i64 c))) : DoR (k + 2) I bx A t := by
  obtain ⟨T, R, X, Y, hd, hg⟩ := hJ
  have bi := ac_box A
  have fa := ac_fa (ac A)
  have ld := ac_ld A hA
  have am := do_am h
  have ap : ∀ l : List AV, apartV .ns (.ip l true) = true := fun _ => rfl
  have hb : ∀ j, (a.w j).length ≤ 64 * 60 := fun j => by have := hw j; omega
  obtain ⟨bx1, T1, e1, X1, S1⟩ := xwrite (k + 1) X A.at_ hA hb
  have Y1 := Y.frame (fun j hj hl => S1.fr j hl fun ht => hd j ht hj) S1.len
  obtain ⟨bx2, R2, e2, Y2, S2⟩ := ywrite k Y1 A.at_ hA hb
  have c1 : callA (evFn cx0 ext0 (k + 2)) md_l04_do bx 8 [.bp I.d 0, .v (.int .i64 A.at_), .agg (u8l A.b)] = some (.v (.int .i64 (a.wr I.n A.at_ A.b).1), bx1) := by rw [Pr0.call_k rfl]; exact e1
  have c2 : callA (evFn cx0 ext0 (k + 2)) md_l04_do bx1 38 [.bp I.ry 0, .v (.int .i64 A.at_), .agg (u8l A.b)] = some (.v (.int .i64 (a.wr I.n A.at_ A.b).1), bx2) := by rw [Pr0.call_k rfl]; exact e2
  refine ⟨bx2, _, ?_, J.y X1 Y2 (fun j hj hr => by rcases S1.nw j hj with h | h; exact hd j h hr; have := Y.lt j hr; omega) (S1.gd hg) S2, wr_w hw _ hA⟩
  have g5 : ((c : Int) == 5) = false := by simp; omega
  have g6 : ((c : Int) == 6) = false := by simp; omega
  have g7 : ((c : Int) == 7) = false := by simp; omega
  have g8 : ((c : Int) == 8) = false := by simp; omega
  have g9 : ((c : Int) == 9) = false := by simp; omega
  have g10 : ((c : Int) == 10) = false := by simp; omega
  have ee := beq_self_eq_true (a.wr I.n A.at_ A.b).1
  generalize (a.wr I.n A.at_ A.b).1 = e at *
  show evFn cx0 ext0 (k + 2 + 1) 22 [.bp I.d 0, .bp I.ry 0, .bp I.ps 0, .bp I.rq 0, .agg (ac A)] bx = _
  generalize ac A = L at *
  rw [E_l04_do]
  refine ends_fin (P := Try.prog) ?_
  unfold F_l04_do
  have stq := (And.intro (bi) (And.intro (fa) (And.intro (ld) (And.intro (am) (And.intro (ap) (And.intro (g5) (And.intro (g6) (And.intro (g7) (And.intro (g8) (And.intro (g9) (And.intro (g10) (And.intro (c1) (And.intro (c2) (ee))))))))))))))
  repeat first
    | ((with_reducible apply ends_bind); case h => first | (simp only [stp, stq]; first | done | rfl) | rfl)
    | ((with_reducible apply ends_t); case h => first | rfl | (simp only [stp, stq]; done))
    | ((with_reducible apply ends_f); case h => first | rfl | (simp only [stp, stq]; done))
  exact ends_some ⟨.inl rfl, _, rfl, rfl⟩
theorem used_w {a : St} {t : Nat} (hw : ∀ j, (a.w j).length ≤ 64 * t) (j : Nat) : (a.used.w j).length ≤ 64 * (t + 1) := by
  show (a.w j).length ≤ _
  have := hw j
  omega
theorem do_flush {k t : Nat} (hk : 2050 ≤ k) (hn : 1 ≤ I.n ∧ I.n ≤ 2048) (hJ : J I bx a a) {A : Ac} (hA : A.b.length = 64) (hw : ∀ j, (a.w j).length ≤ 64 * t)
    (h : cf (evFn cx0 ext0 (k + 2)) 9 [.v (.int .i64 A.dd), .v (.int .i64 11)] = some (.v (.int .i64 (6 : Nat)))) : DoR (k + 2) I bx A t := by
  obtain ⟨T, R, X, Y, hd, hg⟩ := hJ
  have bi := ac_box A
  have fa := ac_fa (ac A)
  have ld := ac_ld A hA
  have am := do_am h
  have ap : ∀ l : List AV, apartV .ns (.ip l true) = true := fun _ => rfl
  obtain ⟨x1, x2⟩ := xflush (k + 1) X hn.1 hg
  have g5 : (((6 : Nat) : Int) == 5) = false := rfl
  have g6 : (((6 : Nat) : Int) == 6) = true := rfl
  by_cases he : a.e = 0
  · obtain ⟨bx1, c1, e1, X1, hc1, hb1, S1⟩ := x2 he
    have Y1 := Y.frame (fun j hj hl => S1.fr j hl fun ht => hd j ht hj) S1.len
    obtain ⟨bx2, c2, e2, Y2, hc2, hb2, S2⟩ := (yflush k hk Y1 hn.2 (S1.gd hg)).2 he
    have hcc : c2 = c1 := bk_ext I.n hc2 hc1 fun j hj => by rw [hb1 j hj, hb2 j hj]
    subst hcc
    have k1 : callA (evFn cx0 ext0 (k + 2)) md_l04_do bx 10 [.bp I.d 0] = some (.v (.int .i64 0), bx1) := by rw [Pr0.call_k rfl]; exact e1
    have k2 : callA (evFn cx0 ext0 (k + 2)) md_l04_do bx1 30 [.bp I.ry 0] = some (.v (.int .i64 0), bx2) := by rw [Pr0.call_k rfl]; exact e2
    refine ⟨bx2, _, ?_, J.y X1 Y2 (fun j hj hr => by rcases S1.nw j hj with h | h; exact hd j h hr; have := Y.lt j hr; omega) (S1.gd hg) S2, fun j => by show ([] : List UInt8).length ≤ _; simp⟩
    have ee : ((0 : Int) == 0) = true := rfl
    show evFn cx0 ext0 (k + 2 + 1) 22 [.bp I.d 0, .bp I.ry 0, .bp I.ps 0, .bp I.rq 0, .agg (ac A)] bx = _
    generalize ac A = L at *
    rw [E_l04_do]
    refine ends_fin (P := Try.prog) ?_
    unfold F_l04_do
    have stq := (And.intro (bi) (And.intro (fa) (And.intro (ld) (And.intro (am) (And.intro (ap) (And.intro (g5) (And.intro (g6) (And.intro (k1) (And.intro (k2) (ee))))))))))
    repeat first
      | ((with_reducible apply ends_bind); case h => first | (simp only [stp, stq]; first | done | rfl) | rfl)
      | ((with_reducible apply ends_t); case h => first | rfl | (simp only [stp, stq]; done))
      | ((with_reducible apply ends_f); case h => first | rfl | (simp only [stp, stq]; done))
    exact ends_some ⟨.inl rfl, _, rfl, rfl⟩
  · obtain ⟨bx1, e1, X1, S1⟩ := x1 he
    have Y1 := Y.frame (fun j hj hl => S1.fr j hl fun ht => hd j ht hj) S1.len
    obtain ⟨bx2, e2, Y2, S2⟩ := (yflush k hk Y1 hn.2 (S1.gd hg)).1 he
    have k1 : callA (evFn cx0 ext0 (k + 2)) md_l04_do bx 10 [.bp I.d 0] = some (.v (.int .i64 a.e), bx1) := by rw [Pr0.call_k rfl]; exact e1
    have k2 : callA (evFn cx0 ext0 (k + 2)) md_l04_do bx1 30 [.bp I.ry 0] = some (.v (.int .i64 a.e), bx2) := by rw [Pr0.call_k rfl]; exact e2
    refine ⟨bx2, _, ?_, J.y X1 Y2 (fun j hj hr => by rcases S1.nw j hj with h | h; exact hd j h hr; have := Y.lt j hr; omega) (S1.gd hg) S2, used_w hw⟩
    have ee := beq_self_eq_true a.e
    generalize a.e = e at *
    show evFn cx0 ext0 (k + 2 + 1) 22 [.bp I.d 0, .bp I.ry 0, .bp I.ps 0, .bp I.rq 0, .agg (ac A)] bx = _
    generalize ac A = L at *
    rw [E_l04_do]
    refine ends_fin (P := Try.prog) ?_
    unfold F_l04_do
    have stq := (And.intro (bi) (And.intro (fa) (And.intro (ld) (And.intro (am) (And.intro (ap) (And.intro (g5) (And.intro (g6) (And.intro (k1) (And.intro (k2) (ee))))))))))
    repeat first
      | ((with_reducible apply ends_bind); case h => first | (simp only [stp, stq]; first | done | rfl) | rfl)
      | ((with_reducible apply ends_t); case h => first | rfl | (simp only [stp, stq]; done))
      | ((with_reducible apply ends_f); case h => first | rfl | (simp only [stp, stq]; done))
    exact ends_some ⟨.inl rfl, _, rfl, rfl⟩
theorem do_crash {k t : Nat} (hk : 2050 ≤ k) (hn : I.n ≤ 2048) (hJ : J I bx a a) {A : Ac} (hA : A.b.length = 64) (hks : A.ks.length * 8 ≤ 2 ^ 47)
    (h : cf (evFn cx0 ext0 (k + 2)) 9 [.v (.int .i64 A.dd), .v (.int .i64 11)] = some (.v (.int .i64 (7 : Nat)))) : DoR (k + 2) I bx A t := by
  obtain ⟨T, R, X, Y, hd, hg⟩ := hJ
  have bi := ac_box A
  have fa := ac_fa (ac A)
  have ld := ac_ld A hA
  have am := do_am h
  have ap : ∀ l : List AV, apartV .ns (.ip l true) = true := fun _ => rfl
  have g5 : (((7 : Nat) : Int) == 5) = false := rfl
  have g6 : (((7 : Nat) : Int) == 6) = false := rfl
  have g7 : (((7 : Nat) : Int) == 7) = true := rfl
  have ci : callA (evFn cx0 ext0 (k + 2)) md_l04_do bx 31 [.sl A.ks.length (il A.ks) true] = some (.sl A.ks.length (il A.ks) false, bx) := by
    rw [callA_frozen rfl]
    have : ([.sl A.ks.length (il A.ks) true] : List AV).map (frz bx true 6) = [.sl A.ks.length (il A.ks) true] := rfl
    rw [this, ints_ev (k + 1) A.ks hks true]
    rfl
  obtain ⟨bx1, c1, e1, X1, hc1, hb1, S1⟩ := xcrash (k + 1) X (keep_ints A.ks false bx I.s)
  have Y1 := Y.frame (fun j hj hl => S1.fr j hl fun ht => hd j ht hj) S1.len
  obtain ⟨bx2, c2, e2, Y2, hc2, hb2, S2⟩ := ycrash (k + 1) (by omega) Y1 hn (keep := .sl A.ks.length (il A.ks) true) fun y => keepA_ok (keep_ints A.ks true y 0) y fun _ _ => rfl
  have hcc : c2 = c1 := bk_ext I.n hc2 hc1 fun j hj => by rw [hb1 j hj, hb2 j hj]
  subst hcc
  have k1 : callA (evFn cx0 ext0 (k + 2)) md_l04_do bx 12 [.bp I.d 0, .sl A.ks.length (il A.ks) false] = some (.tup [], bx1) := by rw [Pr0.call_k rfl]; exact e1
  have k2 : callA (evFn cx0 ext0 (k + 2)) md_l04_do bx1 32 [.bp I.ry 0, .sl A.ks.length (il A.ks) true] = some (.tup [], bx2) := by rw [Pr0.call_k rfl]; exact e2
  refine ⟨bx2, _, ?_, J.y X1 Y2 (fun j hj hr => by rcases S1.nw j hj with h | h; exact hd j h hr; have := Y.lt j hr; omega) (S1.gd hg) S2, fun j => by show ([] : List UInt8).length ≤ _; simp⟩
  show evFn cx0 ext0 (k + 2 + 1) 22 [.bp I.d 0, .bp I.ry 0, .bp I.ps 0, .bp I.rq 0, .agg (ac A)] bx = _
  generalize ac A = L at *
  rw [E_l04_do]
  refine ends_fin (P := Try.prog) ?_
  unfold F_l04_do
  have stq := (And.intro (bi) (And.intro (fa) (And.intro (ld) (And.intro (am) (And.intro (ap) (And.intro (g5) (And.intro (g6) (And.intro (g7) (And.intro (ci) (And.intro (k1) (k2)))))))))))
  repeat first
    | ((with_reducible apply ends_bind); case h => first | (simp only [stp, stq]; first | done | rfl) | rfl)
    | ((with_reducible apply ends_t); case h => first | rfl | (simp only [stp, stq]; done))
    | ((with_reducible apply ends_f); case h => first | rfl | (simp only [stp, stq]; done))
  exact ends_some ⟨.inl rfl, _, rfl, rfl⟩
theorem do_limit {k t : Nat} (hJ : J I bx a a) {A : Ac} (hA : A.b.length = 64) (hw : ∀ j, (a.w j).length ≤ 64 * t)
    (h : cf (evFn cx0 ext0 (k + 2)) 9 [.v (.int .i64 A.dd), .v (.int .i64 11)] = some (.v (.int .i64 (8 : Nat)))) : DoR (k + 2) I bx A t := by
  obtain ⟨T, R, X, Y, hd, hg⟩ := hJ
  have bi := ac_box A
  have fa := ac_fa (ac A)
  have ld := ac_ld A hA
  have am := do_am h
  have ap : ∀ l : List AV, apartV .ns (.ip l true) = true := fun _ => rfl
  have g5 : (((8 : Nat) : Int) == 5) = false := rfl
  have g6 : (((8 : Nat) : Int) == 6) = false := rfl
  have g7 : (((8 : Nat) : Int) == 7) = false := rfl
  have g8 : (((8 : Nat) : Int) == 8) = true := rfl
  have X' := X
  obtain ⟨O, cl, bs, ws, D, hp, hO, hT, hlt, hww⟩ := X'
  have e1 := plimit (k + 1) hp A.at_
  obtain ⟨X1, S1⟩ := X.sup A.at_ a.u a.g
  have hw1 : ∀ j, (a.w j).length ≤ 64 * (t + 1) := fun j => by have := hw j; omega
  by_cases h0 : A.at_ < 0
  · rw [if_pos h0] at e1
    obtain ⟨wt, B, hwt⟩ := Y
    have e2 := rlimit (k + 1) B.hp A.at_
    rw [if_pos h0] at e2
    have k1 : callA (evFn cx0 ext0 (k + 2)) md_l04_do bx 33 [.bp I.ps 0, .v (.int .i64 A.at_)] = some (.v (.int .i64 2), bx) := by rw [Pr0.call_k rfl]; exact e1
    have k2 : callA (evFn cx0 ext0 (k + 2)) md_l04_do bx 34 [.bp I.rq 0, .v (.int .i64 A.at_)] = some (.v (.int .i64 2), bx) := by rw [Pr0.call_k rfl]; exact e2
    refine ⟨bx, a, ?_, ⟨T, R, X, ⟨wt, B, hwt⟩, hd, hg⟩, hw1⟩
    have ee : ((2 : Int) == 2) = true := rfl
    show evFn cx0 ext0 (k + 2 + 1) 22 [.bp I.d 0, .bp I.ry 0, .bp I.ps 0, .bp I.rq 0, .agg (ac A)] bx = _
    generalize ac A = L at *
    rw [E_l04_do]
    refine ends_fin (P := Try.prog) ?_
    unfold F_l04_do
    have stq := (And.intro (bi) (And.intro (fa) (And.intro (ld) (And.intro (am) (And.intro (ap) (And.intro (g5) (And.intro (g6) (And.intro (g7) (And.intro (g8) (And.intro (k1) (And.intro (k2) (ee))))))))))))
    repeat first
      | ((with_reducible apply ends_bind); case h => first | (simp only [stp, stq]; first | done | rfl) | rfl)
      | ((with_reducible apply ends_t); case h => first | rfl | (simp only [stp, stq]; done))
      | ((with_reducible apply ends_f); case h => first | rfl | (simp only [stp, stq]; done))
    exact ends_some ⟨.inl rfl, _, rfl, rfl⟩
  · rw [if_neg h0] at e1
    have Y1 := Y.frame (fun j hj hl => S1.fr j hl fun ht => hd j ht hj) S1.len
    obtain ⟨wt, B, hwt⟩ := Y1
    have e2 := rlimit (k + 1) B.hp A.at_
    rw [if_neg h0] at e2
    have k1 : callA (evFn cx0 ext0 (k + 2)) md_l04_do bx 33 [.bp I.ps 0, .v (.int .i64 A.at_)] = some (.v (.int .i64 0), bx.set I.ps (sup A.at_ a.u a.g)) := by rw [Pr0.call_k rfl]; exact e1
    have k2 : callA (evFn cx0 ext0 (k + 2)) md_l04_do (bx.set I.ps (sup A.at_ a.u a.g)) 34 [.bp I.rq 0, .v (.int .i64 A.at_)] = some (.v (.int .i64 0), (bx.set I.ps (sup A.at_ a.u a.g)).set I.rq (sup A.at_ a.u a.g)) := by rw [Pr0.call_k rfl]; exact e2
    refine ⟨_, _, ?_, J.y X1 ⟨wt, B.sup A.at_ a.u a.g, hwt⟩ hd (S1.gd hg) (Stp.used B A.at_ a.u a.g), hw1⟩
    have ee : ((0 : Int) == 0) = true := rfl
    generalize (bx.set I.ps (sup A.at_ a.u a.g)).set I.rq (sup A.at_ a.u a.g) = bx2 at *
    generalize bx.set I.ps (sup A.at_ a.u a.g) = bx1 at *
    show evFn cx0 ext0 (k + 2 + 1) 22 [.bp I.d 0, .bp I.ry 0, .bp I.ps 0, .bp I.rq 0, .agg (ac A)] bx = _
    generalize ac A = L at *
    rw [E_l04_do]
    refine ends_fin (P := Try.prog) ?_
    unfold F_l04_do
    have stq := (And.intro (bi) (And.intro (fa) (And.intro (ld) (And.intro (am) (And.intro (ap) (And.intro (g5) (And.intro (g6) (And.intro (g7) (And.intro (g8) (And.intro (k1) (And.intro (k2) (ee))))))))))))
    repeat first
      | ((with_reducible apply ends_bind); case h => first | (simp only [stp, stq]; first | done | rfl) | rfl)
      | ((with_reducible apply ends_t); case h => first | rfl | (simp only [stp, stq]; done))
      | ((with_reducible apply ends_f); case h => first | rfl | (simp only [stp, stq]; done))
    exact ends_some ⟨.inl rfl, _, rfl, rfl⟩
theorem do_restore {k t : Nat} (hJ : J I bx a a) {A : Ac} (hA : A.b.length = 64) (hw : ∀ j, (a.w j).length ≤ 64 * t)
    (h : cf (evFn cx0 ext0 (k + 2)) 9 [.v (.int .i64 A.dd), .v (.int .i64 11)] = some (.v (.int .i64 (9 : Nat)))) : DoR (k + 2) I bx A t := by
  obtain ⟨T, R, X, Y, hd, hg⟩ := hJ
  have bi := ac_box A
  have fa := ac_fa (ac A)
  have ld := ac_ld A hA
  have am := do_am h
  have ap : ∀ l : List AV, apartV .ns (.ip l true) = true := fun _ => rfl
  have g5 : (((9 : Nat) : Int) == 5) = false := rfl
  have g6 : (((9 : Nat) : Int) == 6) = false := rfl
  have g7 : (((9 : Nat) : Int) == 7) = false := rfl
  have g8 : (((9 : Nat) : Int) == 8) = false := rfl
  have g9 : (((9 : Nat) : Int) == 9) = true := rfl
  have X' := X
  obtain ⟨O, cl, bs, ws, D, hp, hO, hT, hlt, hww⟩ := X'
  have e1 := prestore (k + 1) hp
  obtain ⟨X1, S1⟩ := X.sup (-1) a.u false
  have hw1 : ∀ j, (a.w j).length ≤ 64 * (t + 1) := fun j => by have := hw j; omega
  have Y1 := Y.frame (fun j hj hl => S1.fr j hl fun ht => hd j ht hj) S1.len
  obtain ⟨wt, B, hwt⟩ := Y1
  have e2 := rrestore (k + 1) B.hp
  have k1 : callA (evFn cx0 ext0 (k + 2)) md_l04_do bx 35 [.bp I.ps 0] = some (.tup [], bx.set I.ps (sup (-1) a.u false)) := by rw [Pr0.call_k rfl]; exact e1
  have k2 : callA (evFn cx0 ext0 (k + 2)) md_l04_do (bx.set I.ps (sup (-1) a.u false)) 36 [.bp I.rq 0] = some (.tup [], (bx.set I.ps (sup (-1) a.u false)).set I.rq (sup (-1) a.u false)) := by rw [Pr0.call_k rfl]; exact e2
  refine ⟨_, _, ?_, J.y X1 ⟨wt, B.sup (-1) a.u false, hwt⟩ hd (S1.gd hg) (Stp.used B (-1) a.u false), hw1⟩
  generalize (bx.set I.ps (sup (-1) a.u false)).set I.rq (sup (-1) a.u false) = bx2 at *
  generalize bx.set I.ps (sup (-1) a.u false) = bx1 at *
  show evFn cx0 ext0 (k + 2 + 1) 22 [.bp I.d 0, .bp I.ry 0, .bp I.ps 0, .bp I.rq 0, .agg (ac A)] bx = _
  generalize ac A = L at *
  rw [E_l04_do]
  refine ends_fin (P := Try.prog) ?_
  unfold F_l04_do
  have stq := (And.intro (bi) (And.intro (fa) (And.intro (ld) (And.intro (am) (And.intro (ap) (And.intro (g5) (And.intro (g6) (And.intro (g7) (And.intro (g8) (And.intro (g9) (And.intro (k1) (k2))))))))))))
  repeat first
    | ((with_reducible apply ends_bind); case h => first | (simp only [stp, stq]; first | done | rfl) | rfl)
    | ((with_reducible apply ends_t); case h => first | rfl | (simp only [stp, stq]; done))
    | ((with_reducible apply ends_f); case h => first | rfl | (simp only [stp, stq]; done))
  exact ends_some ⟨.inl rfl, _, rfl, rfl⟩
end
end Go.Sy

namespace Go.Sy
open Go.Proofs
open Go.Sy.Pr0 (wEs wl DB nilP)

abbrev kp (b : Nat) (bx : Bx) : Bx := bx.map fun l => l.map (AV.keep (· != b))
theorem kp_get {b i : Nat} {bx : Bx} {l : List AV} (h : bx[i]? = some l) (hl : l.map (AV.keep (· != b)) = l) : (kp b bx)[i]? = some l := by
  rw [List.getElem?_map, h, Option.map_some, hl]
theorem kp_u8l (b : Nat) (c : List UInt8) : (u8l c).map (AV.keep (· != b)) = u8l c := u8l_keep _ _
theorem keep_stH (b cl : Nat) (bs : List Nat) : AV.keep (· != b) (stH cl bs) = stH cl bs := by
  unfold stH
  simp only [AV.keep, AV.keepL_eq, List.map_cons, List.map_map]
  rfl
theorem keep_wEs {b : Nat} : ∀ {ws : Pr0.Ws}, (∀ q ∈ ws, q.2.1 ≠ b) → (wEs ws).map (AV.keep (· != b)) = wEs ws
  | [], _ => rfl
  | q :: ws, h => by
    have h1 := h q (by simp)
    show AV.keep (· != b) (.tup [.v (.int .i64 (q.1 : Int)), .gs q.2.1 (q.2.2.length / 64) 64]) :: (wEs ws).map (AV.keep (· != b)) = .tup [.v (.int .i64 (q.1 : Int)), .gs q.2.1 (q.2.2.length / 64) 64] :: wEs ws
    rw [keep_wEs fun x hx => h x (by simp [hx])]
    simp [AV.keep, AV.keepL, h1]
theorem keep_wt {b : Nat} : ∀ {wt : Wl}, (∀ q, some q ∈ wt → q.1 ≠ b) → (wt.map wc).map (AV.keep (· != b)) = wt.map wc
  | [], _ => rfl
  | x :: wt, h => by
    rw [List.map_cons, List.map_cons, keep_wt fun q hq => h q (by simp [hq])]
    cases x with
    | none => rfl
    | some q =>
      have h1 := h q (by simp)
      simp [wc, gv, AV.keep, h1]
theorem eqD_keep (p : Nat → Bool) {x : AV} (h : eqD x x = true) : eqD (x.keep p) (x.keep p) = true := by
  cases x <;> first | exact h | (simp only [AV.keep]; split <;> first | exact h | rfl) | (simp [eqD] at h; done)
theorem eqDs_keep (p : Nat → Bool) : ∀ {l : List AV}, eqDs l l = true → eqDs (AV.keepL p l) (AV.keepL p l) = true
  | [], _ => rfl
  | x :: l, h => by
    simp only [eqDs, Bool.and_eq_true] at h
    simp only [AV.keepL, eqDs, Bool.and_eq_true]
    exact ⟨eqD_keep p h.1, eqDs_keep p h.2⟩
theorem eqC_keep (p : Nat → Bool) {x : AV} (h : eqC x x = true) : eqC (x.keep p) (x.keep p) = true := by
  cases x with
  | fn f pre caps =>
    simp only [eqC, Bool.and_eq_true] at h
    simp only [AV.keep, eqC, Bool.and_eq_true]
    exact ⟨⟨h.1.1, eqDs_keep p h.1.2⟩, eqDs_keep p h.2⟩
  | tup l =>
    simp only [eqC] at h
    simp only [AV.keep, eqC]
    exact eqDs_keep p h
  | bp b o => simp only [AV.keep]; split <;> first | exact h | rfl
  | bsl b o n e => simp only [AV.keep]; split <;> first | exact h | rfl
  | mp b => simp only [AV.keep]; split <;> first | exact h | rfl
  | gs b n e => simp only [AV.keep]; split <;> first | exact h | rfl
  | gp b o m => simp [eqC, eqD] at h
  | agg l => simp [eqC, eqD] at h
  | v x => exact h
  | sl n l f => exact h
  | ip l f => exact h
  | ns => rfl
  | junk => rfl
theorem eqCs_keep (p : Nat → Bool) : ∀ {l : List AV}, eqCs l l = true → eqCs (l.map (AV.keep p)) (l.map (AV.keep p)) = true
  | [], _ => rfl
  | x :: l, h => by
    simp only [eqCs, Bool.and_eq_true] at h
    simp only [List.map_cons, eqCs, Bool.and_eq_true]
    exact ⟨eqC_keep p h.1, eqCs_keep p h.2⟩
theorem Good_kp {bx : Bx} (h : Pr0.Good bx) (b : Nat) : Pr0.Good (kp b bx) := fun l hl => by
  obtain ⟨m, hm, rfl⟩ := List.mem_map.1 hl
  exact eqCs_keep _ (h m hm)
section
variable {I : Ids} {T R : Nat → Prop} {bx : Bx} {a : St} {b : Nat}
theorem XB.kp (X : XB I T bx a) (hb : ¬ T b) : XB I T (kp b bx) a := by
  obtain ⟨O, cl, bs, ws, D, hp, hO, hT, hlt, hw⟩ := X
  have nO : ∀ {i}, O i → i ≠ b := fun h e => hb ((hT b).2 (.inl (e ▸ h)))
  have nps : I.ps ≠ b := fun e => hb ((hT b).2 (.inr e.symm))
  have n1 := nO D.od.2.1
  have n2 := nO D.od.2.2
  refine ⟨O, cl, bs, ws, ⟨kp_get D.hd (by simp [AV.keep, n1, n2, nps]), kp_get D.hs (kp_u8l _ _), D.hc, kp_get D.hm ?_, D.lt, D.nd, D.ln, fun q hq => ?_, D.kn, D.bn, D.ne, D.od⟩, kp_get hp rfl, hO, hT, fun j hj => by rw [List.length_map]; exact hlt j hj, hw⟩
  · rw [List.map_cons, keep_stH, keep_wEs fun q hq => nO (D.hw q hq).2.2.2.2.2.1]
  · obtain ⟨h1, h2, h3⟩ := D.hw q hq
    exact ⟨h1, kp_get h2 (kp_u8l _ _), h3⟩
theorem YB.kp (Y : YB I R bx a) (hb : ¬ R b) : YB I R (kp b bx) a := by
  obtain ⟨wt, B, hw⟩ := Y
  have nR : ∀ {i}, R i → i ≠ b := fun h e => hb (e ▸ h)
  have n1 := nR B.od.2.1
  have n2 := nR B.od.2.2.1
  have n3 := nR B.od.2.2.2
  refine ⟨wt, ⟨kp_get B.hy (by simp [AV.keep, n1, n2, n3]), kp_get B.hs (kp_u8l _ _), B.hc, kp_get B.hw (keep_wt fun q hq => nR (B.hq q hq).2.2.2.2.1), B.hl, fun q hq => ?_, kp_get B.hp rfl, B.ne, B.od, fun j hj => by rw [List.length_map]; exact B.hR j hj⟩, hw⟩
  obtain ⟨h1, h2⟩ := B.hq q hq
  exact ⟨kp_get h1 (kp_u8l _ _), h2⟩
theorem blks_gs {R : Nat → Prop} {bx : Bx} {g n : Nat} {cs : List UInt8} (h : bx[g]? = some (u8l cs)) (hc : cs.length = n * 64) (hg : ¬ R g) : Blks R bx (.gs g n 64) n cs :=
  ⟨ln_gs _ _ _, hc, fun i hi => ⟨_, ix_gs g n i .i64 hi, fun y hy => ld_gs (by rw [hy g (List.getElem?_eq_some_iff.1 h).1 hg]; exact h) hc hi⟩⟩
theorem ap_ns {bx : Bx} {n0 b n : Nat} {c : List UInt8} (hb : bx[b]? = some (u8l c)) (hc : c.length = n * 64) (h1 : 1 ≤ n) (h2 : n ≤ 2048) : appA Try.prog n0 bx 35 .ns (.bsl b 0 n 64) = some (.gs bx.length n 64, fun x => x, bx ++ [u8l c]) := by
  unfold appA
  have rd : readA bx (.bsl b 0 n 64) = some (n, u8l c) := by
    unfold readA
    simp only [hb, Option.map_some, List.drop_zero]
    rw [List.take_of_length_le (by rw [u8l_len]; omega)]
  simp only [el_bl.1, if_true, el_bl.2.1, el_bl.2.2, by_bl, zc_bl, Option.bind_some, rd]
  rw [if_pos ⟨by rw [u8l_len, hc], by omega, by simp [u8l_len], by omega, by omega, by omega⟩]
  rw [if_neg (by omega), if_pos ⟨trivial, Pr0.isV_u8l c⟩]
theorem ap_bs {bx : Bx} {n0 b n : Nat} {c q : List UInt8} (hb : bx[b]? = some (u8l c)) (hc : c.length = n * 64) (h2 : n ≤ 2048) (hn : n0 ≤ b) (hq : q.length = 64) :
    appA Try.prog n0 bx 35 (.bsl b 0 n 64) (.sl 1 (u8l q) false) = some (.bsl b 0 (n + 1) 64, AV.keep (· != b), (kp b bx).set b (u8l (c ++ q))) := by
  unfold appA
  have rd : readA bx (.sl 1 (u8l q) false) = some (1, u8l q) := rfl
  simp only [el_bl.1, if_true, el_bl.2.1, el_bl.2.2, by_bl, zc_bl, Option.bind_some, rd]
  rw [if_pos ⟨by rw [u8l_len, hq], by omega, by simp [u8l_len], by omega, by omega, by omega⟩]
  simp only [hb, Option.bind_some]
  rw [if_pos ⟨trivial, hn, by rw [u8l_len, hc], .inl trivial, by omega⟩, u8l_app, kp_u8l, if_neg (by omega)]
theorem ap_gs1 {bx : Bx} {n0 g n : Nat} {c q : List UInt8} (hg : bx[g]? = some (u8l c)) (hc : c.length = n * 64) (h2 : n ≤ 2048) (hq : q.length = 64) :
    appA Try.prog n0 bx 35 (.gs g n 64) (.sl 1 (u8l q) false) = some (.gs g (n + 1) 64, fun x => x, bx.set g (u8l (c ++ q))) := by
  unfold appA
  have rd : readA bx (.sl 1 (u8l q) false) = some (1, u8l q) := rfl
  simp only [el_bl.1, if_true, el_bl.2.1, el_bl.2.2, by_bl, zc_bl, Option.bind_some, rd]
  rw [if_pos ⟨by rw [u8l_len, hq], by omega, by simp [u8l_len], by omega, by omega, by omega⟩]
  simp only [hg, Option.bind_some]
  rw [if_pos ⟨by rw [u8l_len, hc], trivial, by omega, Pr0.isV_u8l q⟩, u8l_app]
/-- the list goes back as long as it was -/
theorem load_same {k : Nat} (hk : 2050 ≤ k) (hn : 1 ≤ I.n ∧ I.n ≤ 2048) {y : Bx} {b : Nat} (X : XB I T y a) (Y : YB I R y a) (hd : ∀ j, T j → ¬ R j) (hg : Pr0.Good y) {c : List UInt8} (hb : y[b]? = some (u8l c)) (hc : c.length = I.n * 64) (hbT : ¬ T b) :
    ∃ y2 y3, callA (evFn cx0 ext0 (k + 2)) md_l04_do (y ++ [u8l c]) 15 [.bp I.d 0, .bsl b 0 I.n 64] = some (.v (.int .i64 0), y2) ∧ callA (evFn cx0 ext0 (k + 2)) md_l04_do y2 37 [.bp I.ry 0, .gs y.length I.n 64] = some (.v (.int .i64 0), y3) ∧ J I y3 (a.calm c) (a.calm c) := by
  have X1 := X.app [u8l c]
  have Y1 := Y.app [u8l c]
  have hg1 : Pr0.Good (y ++ [u8l c]) := hg.app (Pr0.Good.b1 c)
  have hb1 : (y ++ [u8l c])[b]? = some (u8l c) := by rw [List.getElem?_append_left (List.getElem?_eq_some_iff.1 hb).1]; exact hb
  have rd : readA (y ++ [u8l c]) (.bsl b 0 I.n 64) = some (I.n, u8l c) := by
    unfold readA
    simp only [hb1, Option.map_some, List.drop_zero]
    rw [List.take_of_length_le (by rw [u8l_len]; omega)]
  obtain ⟨y2, e1, X2, S1⟩ := xload_ok (k + 1) X1 (ln_bb b I.n 64) hc rd
  have Y2 := Y1.frame (fun j hj hl => S1.fr j hl fun ht => hd j ht hj) S1.len
  have hmT : ¬ T y.length := fun h => by have := X.lt _ h; omega
  have hmR : ¬ R y.length := fun h => by have := Y.lt _ h; omega
  have hm2 : y2[y.length]? = some (u8l c) := by rw [S1.fr _ (by simp) hmT]; simp
  obtain ⟨y3, e2, Y3, S2⟩ := yload_ok (k + 1) (by omega) Y2 hn.2 (blks_gs hm2 hc hmR)
  exact ⟨y2, y3, by rw [Pr0.call_k rfl]; exact e1, by rw [Pr0.call_k rfl]; exact e2, J.y X2 Y3 (fun j hj hr => by rcases S1.nw j hj with h | h; exact hd j h hr; have := Y1.lt j hr; omega) (S1.gd hg1) S2⟩
/-- the list goes back longer -/
theorem load_more {k n0 : Nat} (hn : 1 ≤ I.n ∧ I.n ≤ 2048) {y : Bx} {b : Nat} (X : XB I T y a) (Y : YB I R y a) (hd : ∀ j, T j → ¬ R j) (hg : Pr0.Good y) {c q : List UInt8} (hb : y[b]? = some (u8l c)) (hc : c.length = I.n * 64) (hq : q.length = 64) (hbT : ¬ T b) (hbR : ¬ R b) (h0 : n0 ≤ b) :
    ∃ y2 y3, appA Try.prog n0 (y ++ [u8l c]) 35 (.bsl b 0 I.n 64) (.sl 1 (u8l q) false) = some (.bsl b 0 (I.n + 1) 64, AV.keep (· != b), y2) ∧ appA Try.prog n0 y2 35 (.gs y.length I.n 64) (.sl 1 (u8l q) false) = some (.gs y.length (I.n + 1) 64, fun x => x, y3) ∧
      callA (evFn cx0 ext0 (k + 2)) md_l04_do y3 15 [.bp I.d 0, .bsl b 0 (I.n + 1) 64] = some (.v (.int .i64 2), y3) ∧ callA (evFn cx0 ext0 (k + 2)) md_l04_do y3 37 [.bp I.ry 0, .gs y.length (I.n + 1) 64] = some (.v (.int .i64 2), y3) ∧ J I y3 a a := by
  have hbl := (List.getElem?_eq_some_iff.1 hb).1
  have hb1 : (y ++ [u8l c])[b]? = some (u8l c) := by rw [List.getElem?_append_left hbl]; exact hb
  have a1 := ap_bs (n0 := n0) hb1 hc hn.2 h0 hq
  have X1 := (X.app [u8l c]).kp hbT
  have Y1 := (Y.app [u8l c]).kp hbR
  have hg1 : Pr0.Good (kp b (y ++ [u8l c])) := Good_kp (hg.app (Pr0.Good.b1 c)) b
  have hm1 : (kp b (y ++ [u8l c]))[y.length]? = some (u8l c) := kp_get (by simp) (kp_u8l _ _)
  have hl1 : (kp b (y ++ [u8l c])).length = y.length + 1 := by simp
  generalize kp b (y ++ [u8l c]) = y1 at *
  have X2 : XB I T (y1.set b (u8l (c ++ q))) a := X1.frame (fun j hj _ => List.getElem?_set_ne (fun e => hbT (by rw [e]; exact hj))) (by simp)
  have Y2 : YB I R (y1.set b (u8l (c ++ q))) a := Y1.frame (fun j hj _ => List.getElem?_set_ne (fun e => hbR (by rw [e]; exact hj))) (by simp)
  have hg2 : Pr0.Good (y1.set b (u8l (c ++ q))) := hg1.set (eqCs_u8l _) _
  have hm2 : (y1.set b (u8l (c ++ q)))[y.length]? = some (u8l c) := by rw [List.getElem?_set_ne (by omega)]; exact hm1
  have hl2 : (y1.set b (u8l (c ++ q))).length = y.length + 1 := by rw [List.length_set]; exact hl1
  generalize y1.set b (u8l (c ++ q)) = y2 at *
  have a2 := ap_gs1 (n0 := n0) hm2 hc hn.2 hq
  have hmT : ¬ T y.length := fun h => by have := X.lt _ h; omega
  have hmR : ¬ R y.length := fun h => by have := Y.lt _ h; omega
  have X3 : XB I T (y2.set y.length (u8l (c ++ q))) a := X2.frame (fun j hj _ => List.getElem?_set_ne (fun e => hmT (by rw [e]; exact hj))) (by simp)
  have Y3 : YB I R (y2.set y.length (u8l (c ++ q))) a := Y2.frame (fun j hj _ => List.getElem?_set_ne (fun e => hmR (by rw [e]; exact hj))) (by simp)
  have hg3 : Pr0.Good (y2.set y.length (u8l (c ++ q))) := hg2.set (eqCs_u8l _) _
  have hm3 : (y2.set y.length (u8l (c ++ q)))[y.length]? = some (u8l (c ++ q)) := List.getElem?_set_self (by omega)
  refine ⟨y2, _, a1, a2, ?_, ?_, ⟨T, R, X3, Y3, hd, hg3⟩⟩
  · rw [Pr0.call_k rfl]
    exact xload_no (k + 1) X3 (ln_bb b (I.n + 1) 64) (by omega)
  · rw [Pr0.call_k rfl]
    exact yload_no (k + 1) Y3 (blks_gs hm3 (n := I.n + 1) (by rw [List.length_append]; omega) hmR) (by omega)
theorem do_load {k t : Nat} (hk : 2050 ≤ k) (hn : 1 ≤ I.n ∧ I.n ≤ 2048) (hJ : J I bx a a) {A : Ac} (hA : A.b.length = 64) (hw : ∀ j, (a.w j).length ≤ 64 * t)
    (h : cf (evFn cx0 ext0 (k + 2)) 9 [.v (.int .i64 A.dd), .v (.int .i64 11)] = some (.v (.int .i64 (10 : Nat)))) : DoR (k + 2) I bx A t := by
  obtain ⟨T, R, X, Y, hd, hg⟩ := hJ
  have bi := ac_box A
  have fa := ac_fa (ac A)
  have ld := ac_ld A hA
  have am := do_am h
  have g5 : (((10 : Nat) : Int) == 5) = false := rfl
  have g6 : (((10 : Nat) : Int) == 6) = false := rfl
  have g7 : (((10 : Nat) : Int) == 7) = false := rfl
  have g8 : (((10 : Nat) : Int) == 8) = false := rfl
  have g9 : (((10 : Nat) : Int) == 9) = false := rfl
  have g10 : (((10 : Nat) : Int) == 10) = true := rfl
  have hcl : a.c.length = I.n * 64 := by obtain ⟨O, cl, bs, ws, D, _⟩ := X; exact D.hc
  have e1 := ximage (k + 1) X hn.1 hn.2
  have c1 : callA (evFn cx0 ext0 (k + 2)) md_l04_do bx 18 [.bp I.d 0] = some (.bsl (bx.length + 1) 0 I.n 64, bx ++ [[], u8l a.c]) := by rw [Pr0.call_k rfl]; exact e1
  have gt : Pr0.Good [[], u8l a.c] := fun l hl => by
    simp only [List.mem_cons, List.not_mem_nil, or_false] at hl
    rcases hl with rfl | rfl
    · rfl
    · exact eqCs_u8l _
  have X1 := X.app [[], u8l a.c]
  have Y1 := Y.app [[], u8l a.c]
  have hg1 := hg.app gt
  have hbT : ¬ T (bx.length + 1) := fun h => by have := X.lt _ h; omega
  have hbR : ¬ R (bx.length + 1) := fun h => by have := Y.lt _ h; omega
  have hb1 : (bx ++ [[], u8l a.c])[bx.length + 1]? = some (u8l a.c) := by
    rw [List.getElem?_append_right (by omega), show bx.length + 1 - bx.length = 1 by omega]
    rfl
  have hl1 : (bx ++ [[], u8l a.c]).length = bx.length + 2 := by simp
  have h0 : bx.length ≤ bx.length + 1 := by omega
  have ln := ln_bb (bx.length + 1) I.n 64
  have lz := lit0
  have hwz : ∀ j, ((a.calm a.c).w j).length ≤ 64 * (t + 1) := fun j => by show ([] : List UInt8).length ≤ _; simp
  have hw1 : ∀ j, (a.w j).length ≤ 64 * (t + 1) := fun j => by have := hw j; omega
  obtain ⟨y, hy⟩ : ∃ y, y = bx ++ [[], u8l a.c] := ⟨_, rfl⟩
  rw [← hy] at c1 X1 Y1 hg1 hb1 hl1
  clear hy e1
  obtain ⟨b, hb⟩ : ∃ b, b = bx.length + 1 := ⟨_, rfl⟩
  rw [← hb] at c1 hbT hbR hb1 h0 ln
  by_cases hin : 0 ≤ A.at_ ∧ A.at_ < (I.n : Int)
  · -- a block is put into the list
    obtain ⟨i, hi⟩ : ∃ i : Nat, A.at_ = i := ⟨A.at_.toNat, by omega⟩
    have hin' : i < I.n := by omega
    have ix := ix_bb b I.n i .i64 hin'
    have st := st_bb hb1 hcl hin' hA
    have hc2 := spl_len hcl hin' hA
    have X2 : XB I T (y.set b (u8l (spl a.c i A.b))) a := X1.frame (fun j hj _ => List.getElem?_set_ne (fun e => hbT (by rw [e]; exact hj))) (by simp)
    have Y2 : YB I R (y.set b (u8l (spl a.c i A.b))) a := Y1.frame (fun j hj _ => List.getElem?_set_ne (fun e => hbR (by rw [e]; exact hj))) (by simp)
    have hg2 : Pr0.Good (y.set b (u8l (spl a.c i A.b))) := hg1.set (eqCs_u8l _) _
    have hb2 : (y.set b (u8l (spl a.c i A.b)))[b]? = some (u8l (spl a.c i A.b)) := List.getElem?_set_self (by omega)
    generalize y.set b (u8l (spl a.c i A.b)) = y1 at *
    have ap := ap_ns (n0 := bx.length) hb2 hc2 hn.1 hn.2
    obtain ⟨y2, y3, k1, k2, hJ3⟩ := load_same hk hn X2 Y2 hd hg2 hb2 hc2 hbT
    refine ⟨y3, _, ?_, hJ3, hwz⟩
    have ga : decide ((0 : Int) ≤ (i : Int)) = true := decide_eq_true (by omega)
    have gb : decide ((i : Int) < (I.n : Int)) = true := decide_eq_true (by omega)
    have gc : ((i : Int) == (I.n : Int)) = false := by simp; omega
    rw [hi] at ld
    have ee : ((0 : Int) == 0) = true := rfl
    show evFn cx0 ext0 (k + 2 + 1) 22 [.bp I.d 0, .bp I.ry 0, .bp I.ps 0, .bp I.rq 0, .agg (ac A)] bx = _
    generalize ac A = L at *
    generalize y1 ++ [u8l (spl a.c i A.b)] = y1' at *
    rw [E_l04_do]
    refine ends_fin (P := Try.prog) ?_
    unfold F_l04_do
    have stq := (And.intro (bi) (And.intro (fa) (And.intro (ld) (And.intro (am) (And.intro (g5) (And.intro (g6) (And.intro (g7) (And.intro (g8) (And.intro (g9) (And.intro (g10) (And.intro (c1) (And.intro (ga) (And.intro (gb) (And.intro (gc) (And.intro (ln) (And.intro (ix) (And.intro (st) (And.intro (lz) (And.intro (ap) (And.intro (k1) (And.intro (k2) (ee))))))))))))))))))))))
    repeat first
      | ((with_reducible apply ends_bind); case h => first | (simp only [stp, stq]; first | done | rfl) | rfl)
      | ((with_reducible apply ends_t); case h => first | rfl | (simp only [stp, stq]; done))
      | ((with_reducible apply ends_f); case h => first | rfl | (simp only [stp, stq]; done))
    exact ends_some ⟨.inl rfl, _, rfl, rfl⟩
  · -- the list stays as it is
    have ap := ap_ns (n0 := bx.length) hb1 hcl hn.1 hn.2
    have hgg : ∀ {x : Int}, x = A.at_ → (decide ((0 : Int) ≤ x) = true ∧ decide (x < (I.n : Int)) = false) ∨ decide ((0 : Int) ≤ x) = false := by
      rintro x rfl
      by_cases h : 0 ≤ A.at_
      · exact .inl ⟨decide_eq_true h, decide_eq_false fun h' => hin ⟨h, h'⟩⟩
      · exact .inr (decide_eq_false h)
    by_cases hat : A.at_ = (I.n : Int)
    · -- both lists grow by one
      have l1 := lit1 hA
      obtain ⟨y2, y3, a1, a2, k1, k2, hJ3⟩ := load_more (k := k) (n0 := bx.length) hn X1 Y1 hd hg1 hb1 hcl hA hbT hbR h0
      refine ⟨y3, a, ?_, hJ3, hw1⟩
      have nb : y.length ≠ b := by omega
      have nd : I.d ≠ b := by
        obtain ⟨O, cl, bs, ws, D, hp, hO, hT, hlt, hww⟩ := X1
        exact fun e => hbT (e ▸ (hT _).2 (.inl D.od.1))
      have nr : I.ry ≠ b := by
        obtain ⟨wt, B, hww⟩ := Y1
        exact fun e => hbR (e ▸ B.od.1)
      have kg : AV.keep (· != b) (.gs y.length I.n 64) = .gs y.length I.n 64 := by simp [AV.keep, nb]
      have kd : AV.keep (· != b) (.bp I.d 0) = .bp I.d 0 := by simp [AV.keep, nd]
      have kr : AV.keep (· != b) (.bp I.ry 0) = .bp I.ry 0 := by simp [AV.keep, nr]
      have ki : ∀ l, AV.keep (· != b) (.ip l true) = .ip l true := fun _ => rfl
      have f1 : freeA (.bsl b 0 I.n 64) (.gs y.length I.n 64) = true := by simp [freeA, apB, AV.free, nb]
      have f2 : ∀ l, freeA (.bsl b 0 I.n 64) (.ip l true) = true := fun _ => rfl
      have f3 : ∀ l, freeA (.bsl b 0 I.n 64) (.agg (u8l l)) = true := fun l => by
        have : ∀ l : List UInt8, AV.freeL b (u8l l) = true := fun l => by
          induction l with
          | nil => rfl
          | cons x l ih =>
            show AV.freeL b (.v (.int .u8 x.toNat) :: u8l l) = true
            simp only [AV.freeL, ih, AV.free, Bool.and_true]
        simp only [freeA, apB, AV.free, this]
      have f4 : ∀ l, freeA (.bsl b 0 I.n 64) (.sl 1 l false) = true := fun _ => rfl
      have f5 : ∀ (z : Bx) l, apartV (apAd z (.bsl b 0 I.n 64)) (.ip l true) = true := fun _ _ => rfl
      have gd := hgg rfl
      rw [hat] at ld gd
      have gc : ((I.n : Int) == (I.n : Int)) = true := by simp
      have ga : decide ((0 : Int) ≤ (I.n : Int)) = true := decide_eq_true (by omega)
      have gb : decide ((I.n : Int) < (I.n : Int)) = false := decide_eq_false (by omega)
      have ee : ((2 : Int) == 2) = true := rfl
      show evFn cx0 ext0 (k + 2 + 1) 22 [.bp I.d 0, .bp I.ry 0, .bp I.ps 0, .bp I.rq 0, .agg (ac A)] bx = _
      generalize ac A = L at *
      generalize y ++ [u8l a.c] = y1' at *
      rw [E_l04_do]
      refine ends_fin (P := Try.prog) ?_
      unfold F_l04_do
      have stq := (And.intro (bi) (And.intro (fa) (And.intro (ld) (And.intro (am) (And.intro (g5) (And.intro (g6) (And.intro (g7) (And.intro (g8) (And.intro (g9) (And.intro (g10) (And.intro (c1) (And.intro (ga) (And.intro (gb) (And.intro (gc) (And.intro (ln) (And.intro (lz) (And.intro (ap) (And.intro (l1) (And.intro (a1) (And.intro (a2) (And.intro (kg) (And.intro (kd) (And.intro (kr) (And.intro (ki) (And.intro (f1) (And.intro (f2) (And.intro (f3) (And.intro (f4) (And.intro (f5) (And.intro (k1) (And.intro (k2) (ee))))))))))))))))))))))))))))))))
      repeat first
        | ((with_reducible apply ends_bind); case h => first | (simp only [stp, stq]; first | done | rfl) | rfl)
        | ((with_reducible apply ends_t); case h => first | rfl | (simp only [stp, stq]; done))
        | ((with_reducible apply ends_f); case h => first | rfl | (simp only [stp, stq]; done))
      exact ends_some ⟨.inl rfl, _, rfl, rfl⟩
    · obtain ⟨y2, y3, k1, k2, hJ3⟩ := load_same hk hn X1 Y1 hd hg1 hb1 hcl hbT
      refine ⟨y3, _, ?_, hJ3, hwz⟩
      have gc : (A.at_ == (I.n : Int)) = false := by simpa using hat
      have ee : ((0 : Int) == 0) = true := rfl
      show evFn cx0 ext0 (k + 2 + 1) 22 [.bp I.d 0, .bp I.ry 0, .bp I.ps 0, .bp I.rq 0, .agg (ac A)] bx = _
      generalize ac A = L at *
      generalize y ++ [u8l a.c] = y1' at *
      rw [E_l04_do]
      refine ends_fin (P := Try.prog) ?_
      unfold F_l04_do
      rcases hgg rfl with ⟨ga, gb⟩ | ga
      · skip
        have stq := (And.intro (bi) (And.intro (fa) (And.intro (ld) (And.intro (am) (And.intro (g5) (And.intro (g6) (And.intro (g7) (And.intro (g8) (And.intro (g9) (And.intro (g10) (And.intro (c1) (And.intro (ga) (And.intro (gb) (And.intro (gc) (And.intro (ln) (And.intro (lz) (And.intro (ap) (And.intro (k1) (And.intro (k2) (ee))))))))))))))))))))
        repeat first
          | ((with_reducible apply ends_bind); case h => first | (simp only [stp, stq]; first | done | rfl) | rfl)
          | ((with_reducible apply ends_t); case h => first | rfl | (simp only [stp, stq]; done))
          | ((with_reducible apply ends_f); case h => first | rfl | (simp only [stp, stq]; done))
        exact ends_some ⟨.inl rfl, _, rfl, rfl⟩
      · skip
        have stq := (And.intro (bi) (And.intro (fa) (And.intro (ld) (And.intro (am) (And.intro (g5) (And.intro (g6) (And.intro (g7) (And.intro (g8) (And.intro (g9) (And.intro (g10) (And.intro (c1) (And.intro (ga) (And.intro (gc) (And.intro (ln) (And.intro (lz) (And.intro (ap) (And.intro (k1) (And.intro (k2) (ee)))))))))))))))))))
        repeat first
          | ((with_reducible apply ends_bind); case h => first | (simp only [stp, stq]; first | done | rfl) | rfl)
          | ((with_reducible apply ends_t); case h => first | rfl | (simp only [stp, stq]; done))
          | ((with_reducible apply ends_f); case h => first | rfl | (simp only [stp, stq]; done))
        exact ends_some ⟨.inl rfl, _, rfl, rfl⟩
/-- every act -/
theorem do_ev {k t : Nat} (hk : 2050 ≤ k) (hn : 1 ≤ I.n ∧ I.n ≤ 2048) (hJ : J I bx a a) {A : Ac} (hA : A.b.length = 64) (hks : A.ks.length * 8 ≤ 2 ^ 47) (ht : t < 60) (hw : ∀ j, (a.w j).length ≤ 64 * t) : DoR (k + 2) I bx A t := by
  obtain ⟨c, hc, h⟩ := among_ev (k + 1) A.dd 11 (by omega) (by omega)
  by_cases h5 : c = 5
  · subst h5; exact do_force hJ hA hw h
  by_cases h6 : c = 6
  · subst h6; exact do_flush hk hn hJ hA hw h
  by_cases h7 : c = 7
  · subst h7; exact do_crash hk hn.2 hJ hA hks h
  by_cases h8 : c = 8
  · subst h8; exact do_limit hJ hA hw h
  by_cases h9 : c = 9
  · subst h9; exact do_restore hJ hA hw h
  by_cases h10 : c = 10
  · subst h10; exact do_load hk hn hJ hA hw h
  exact do_write hJ hA ht hw ⟨h5, h6, h7, h8, h9, h10⟩ h
end
end Go.Sy

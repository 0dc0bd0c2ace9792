/-
  Layer 15: any patch laid over bytes, and any patches rolled over bytes.
-/
import Derived.Test.YtmkdhgigghgieaaPfPat
namespace Go.Sy
open Go.Proofs Num Crc Seal

def ldV (k : Int) (b : List UInt8) : List UInt8 := if mayK k ∧ kd b = k ∧ right b = true then ld b else zero 54
theorem ldV_len (k : Int) (b : List UInt8) (hb : b.length = 64) : (ldV k b).length = 54 := by
  unfold ldV
  split
  · exact ld_len b hb
  · rfl
theorem gotV_ld (k : Int) (b : List UInt8) : ∃ t e : Int, gotV k b = .tup [.agg (u8l (ldV k b)), .v (.int .u32 t), .v (.int .i64 e)] := by
  unfold gotV ldV
  by_cases h : mayK k
  · by_cases h2 : kd b = k ∧ right b = true
    · rw [if_pos h, if_pos h2, if_pos ⟨h, h2⟩]
      exact ⟨_, _, rfl⟩
    · rw [if_pos h, if_neg h2, if_neg (fun x => h2 x.2)]
      exact ⟨_, _, rfl⟩
  · rw [if_neg h, if_neg (fun x => h x.1)]
    exact ⟨_, _, rfl⟩
def rm (k : Int) : Nat := if k = 0 then 64 else 54
def badP (p : Pt) : Prop := p.kind < 0 ∨ 6 < p.kind ∨ (rm p.kind : Int) < p.data.length ∨ p.off < 0 ∨ (rm p.kind : Int) - p.data.length < p.off
instance (p : Pt) : Decidable (badP p) := by unfold badP; infer_instance
/-- what laying a patch gives -/
def layB (b : List UInt8) (t : Nat) (p : Pt) : List UInt8 := if p.kind = 0 then lq p.off.toNat b p.data else blk p.kind.toNat t (lq p.off.toNat (ldV p.kind b) p.data)
def overV (b : List UInt8) : Option (List UInt8) → AV
  | none => .tup [.agg (u8l b), .v (.int .i64 2)]
  | some c => .tup [.agg (u8l c), .v (.int .i64 0)]
theorem layB_len (b : List UInt8) (t : Nat) (p : Pt) (hb : b.length = 64) (h : ¬ badP p) : (layB b t p).length = 64 := by
  unfold badP rm at h
  unfold layB
  split
  · rename_i hk
    rw [if_pos hk] at h
    unfold lq
    rw [List.length_append, List.length_append, List.length_take, List.length_drop, hb]
    omega
  · rename_i hk
    rw [if_neg hk] at h
    exact blk_len _ _ _ (lq_len _ _ _ (ldV_len _ _ hb) (by omega))
theorem room_gen (m : Nat) (k : Int) : cf (evFn cx0 ext0 (m + 1)) 40 [.v (.int .i64 k)] = some (.v (.int .i64 (rm k))) := by
  unfold cf
  rw [E_roll_room]
  refine ends_cf (P := Try.prog) ?_
  unfold F_roll_room rm
  by_cases h : k = 0
  · have z : (k == 0) = true := by simp [h]
    rw [if_pos h]
    have stq := (z)
    repeat first
      | ((with_reducible apply ends_bind); case h => first | (simp only [stp, stq]; first | done | rfl) | rfl)
      | ((with_reducible apply ends_t); case h => first | rfl | (simp only [stp, stq]; done))
      | ((with_reducible apply ends_f); case h => first | rfl | (simp only [stp, stq]; done))
    exact ends_some ⟨.inl rfl, _, rfl, rfl⟩
  · have z : (k == 0) = false := by simp [h]
    rw [if_neg h]
    have stq := (z)
    repeat first
      | ((with_reducible apply ends_bind); case h => first | (simp only [stp, stq]; first | done | rfl) | rfl)
      | ((with_reducible apply ends_t); case h => first | rfl | (simp only [stp, stq]; done))
      | ((with_reducible apply ends_f); case h => first | rfl | (simp only [stp, stq]; done))
    exact ends_some ⟨.inl rfl, _, rfl, rfl⟩
theorem ld_pt1 (f : Bool) (A : List AV) (p : Pt) (r : Bx) : loadA Try.prog 31 (A :: pt f p :: r) (.bp 1 3) = some (byt f p.data) ∧ loadA Try.prog 3 (A :: pt f p :: r) (.bp 1 4) = some (.v (.int .i64 p.kind)) ∧ loadA Try.prog 3 (A :: pt f p :: r) (.bp 1 2) = some (.v (.int .i64 p.off)) := ⟨by kernel_rfl, by kernel_rfl, by kernel_rfl⟩
theorem Lay_gen {n : Nat} (hn : 460 ≤ n) (f : Bool) (b : List UInt8) (hb : b.length = 64) (p : Pt) (hp : p.data.length < 2 ^ 32) (t : Nat) (ht : t < 4294967296) :
    cf (evFn cx0 ext0 n) 25 [.agg (u8l b), .agg (pt f p), .v (.int .u32 t)] = some (if badP p then overV b none else overV b (some (layB b t p))) := by
  obtain ⟨m, rfl⟩ : ∃ m, n = m + 2 := ⟨n - 2, by omega⟩
  have c1 : cf (evFn cx0 ext0 (m + 1)) 40 [.v (.int .i64 p.kind)] = _ := room_gen m p.kind
  have ln : lenA Try.prog 31 (byt f p.data) = some (.v (.int .i64 (p.data.length : Int))) := len_b _ _
  have lp := fun r => ld_pt1 f (u8l b) p r
  have lB := lds hB
  have lL := lds hL
  have sL := sts hL
  have sB := sts hB
  have aL := al_a hL
  have aB := al_a hB
  have zl : (zero 54).length = 54 := rfl
  have zl6 : (zero 64).length = 64 := rfl
  have s2 := st_a hB (bx := [u8l b, pt f p, u8l (zero 64)]) (k := 2) (b := zero 64) (c := b) rfl zl6 hb
  simp only [List.set_cons_succ, List.set_cons_zero] at s2
  have g5 : IntKind.i64.wrap ((rm p.kind : Int) - (p.data.length : Int)) = (rm p.kind : Int) - (p.data.length : Int) := by rw [wrap64]; unfold rm; split <;> omega
  have stop : ∀ env : Env, get env 6 = .bp 2 0 → get env 7 = .v (.int .i64 2) → Ends (some (Ex.ret, (⟨env, [u8l b, pt f p, u8l b]⟩ : S))) (RetQ Try.prog [.cell 6 23, .tmp 7] (overV b none)) := by
    intro env h6 h7
    have := retq_ct (P := Try.prog) (a := 6) (t := 23) (u := 7) (env := env) (bx := [u8l b, pt f p, u8l b]) (by rw [h6]; exact ld_a hB (b := b) rfl hb) (frz_agg _ _ _ _)
    rw [h7] at this
    exact ends_some this
  unfold cf
  rw [E_roll_Lay]
  refine ends_cf (P := Try.prog) ?_
  unfold F_roll_Lay
  by_cases q1 : p.kind < 0
  · have g1 : decide (p.kind < 0) = true := decide_eq_true q1
    rw [if_pos (show badP p from .inl q1)]
    have stq := (And.intro (box_agg) (And.intro (aB) (And.intro (lB) (And.intro (hb) (And.intro (zl6) (And.intro (fa_pc) (And.intro (lp) (And.intro (ln) (And.intro (c1) (And.intro (g1) (s2)))))))))))
    repeat first
      | ((with_reducible apply ends_bind); case h => first | (simp only [stp, stq]; first | done | rfl) | rfl)
      | ((with_reducible apply ends_t); case h => first | rfl | (simp only [stp, stq]; done))
      | ((with_reducible apply ends_f); case h => first | rfl | (simp only [stp, stq]; done))
    exact stop _ rfl rfl
  have g1 : decide (p.kind < 0) = false := decide_eq_false q1
  by_cases q2 : 6 < p.kind
  · have g2 : decide (6 < p.kind) = true := decide_eq_true q2
    rw [if_pos (show badP p from .inr (.inl q2))]
    have stq := (And.intro (box_agg) (And.intro (aB) (And.intro (lB) (And.intro (hb) (And.intro (zl6) (And.intro (fa_pc) (And.intro (lp) (And.intro (ln) (And.intro (c1) (And.intro (g1) (And.intro (g2) (s2))))))))))))
    repeat first
      | ((with_reducible apply ends_bind); case h => first | (simp only [stp, stq]; first | done | rfl) | rfl)
      | ((with_reducible apply ends_t); case h => first | rfl | (simp only [stp, stq]; done))
      | ((with_reducible apply ends_f); case h => first | rfl | (simp only [stp, stq]; done))
    exact stop _ rfl rfl
  have g2 : decide (6 < p.kind) = false := decide_eq_false q2
  by_cases q3 : (rm p.kind : Int) < p.data.length
  · have g3 : decide ((rm p.kind : Int) < p.data.length) = true := decide_eq_true q3
    rw [if_pos (show badP p from .inr (.inr (.inl q3)))]
    have stq := (And.intro (box_agg) (And.intro (aB) (And.intro (lB) (And.intro (hb) (And.intro (zl6) (And.intro (fa_pc) (And.intro (lp) (And.intro (ln) (And.intro (c1) (And.intro (g1) (And.intro (g2) (And.intro (g3) (s2)))))))))))))
    repeat first
      | ((with_reducible apply ends_bind); case h => first | (simp only [stp, stq]; first | done | rfl) | rfl)
      | ((with_reducible apply ends_t); case h => first | rfl | (simp only [stp, stq]; done))
      | ((with_reducible apply ends_f); case h => first | rfl | (simp only [stp, stq]; done))
    exact stop _ rfl rfl
  have g3 : decide ((rm p.kind : Int) < p.data.length) = false := decide_eq_false q3
  by_cases q4 : p.off < 0
  · have g4 : decide (p.off < 0) = true := decide_eq_true q4
    rw [if_pos (show badP p from .inr (.inr (.inr (.inl q4))))]
    have stq := (And.intro (box_agg) (And.intro (aB) (And.intro (lB) (And.intro (hb) (And.intro (zl6) (And.intro (fa_pc) (And.intro (lp) (And.intro (ln) (And.intro (c1) (And.intro (g1) (And.intro (g2) (And.intro (g3) (And.intro (g4) (s2))))))))))))))
    repeat first
      | ((with_reducible apply ends_bind); case h => first | (simp only [stp, stq]; first | done | rfl) | rfl)
      | ((with_reducible apply ends_t); case h => first | rfl | (simp only [stp, stq]; done))
      | ((with_reducible apply ends_f); case h => first | rfl | (simp only [stp, stq]; done))
    exact stop _ rfl rfl
  have g4 : decide (p.off < 0) = false := decide_eq_false q4
  by_cases q5 : (rm p.kind : Int) - p.data.length < p.off
  · have g6 : decide ((rm p.kind : Int) - p.data.length < p.off) = true := decide_eq_true q5
    rw [if_pos (show badP p from .inr (.inr (.inr (.inr q5))))]
    have stq := (And.intro (box_agg) (And.intro (aB) (And.intro (lB) (And.intro (hb) (And.intro (zl6) (And.intro (fa_pc) (And.intro (lp) (And.intro (ln) (And.intro (c1) (And.intro (g1) (And.intro (g2) (And.intro (g3) (And.intro (g4) (And.intro (g5) (And.intro (g6) (s2))))))))))))))))
    repeat first
      | ((with_reducible apply ends_bind); case h => first | (simp only [stp, stq]; first | done | rfl) | rfl)
      | ((with_reducible apply ends_t); case h => first | rfl | (simp only [stp, stq]; done))
      | ((with_reducible apply ends_f); case h => first | rfl | (simp only [stp, stq]; done))
    exact stop _ rfl rfl
  have g6 : decide ((rm p.kind : Int) - p.data.length < p.off) = false := decide_eq_false q5
  have hbad : ¬ badP p := by unfold badP; omega
  rw [if_neg hbad]
  have hlen := layB_len b t p hb hbad
  obtain ⟨o, ho⟩ : ∃ o : Nat, p.off = o := ⟨p.off.toNat, by omega⟩
  by_cases hk : p.kind = 0
  · have z : (p.kind == 0) = true := by simp [hk]
    have hr : rm p.kind = 64 := by unfold rm; rw [if_pos hk]
    rw [ho] at g4 g6 lp
    have hop : o + p.data.length ≤ 64 := by omega
    unfold layB at hlen ⊢
    rw [if_pos hk, ho, Int.toNat_natCast] at hlen ⊢
    have s1 : sliceA Try.prog [u8l b, pt f p, u8l (zero 64)] 23 (.bp 0 0) (some (.v (.int .i64 o))) none none = some (.bsl 0 o (64 - o) 1) := sl_alo hB (k := 0) (b := b) rfl hb .i64 o (by omega)
    have y1 : readA [u8l b, pt f p, u8l (zero 64)] (byt f p.data) = some (p.data.length, u8l p.data) := by rfl
    have cp := cp_b t8 (bx := [u8l b, pt f p, u8l (zero 64)]) (k := 0) (off := o) (n := 64 - o) (b := b) (d := p.data) (y := byt f p.data) rfl (by omega) y1 (by omega)
    rw [show b.take o ++ p.data ++ b.drop (o + p.data.length) = lq o b p.data from rfl] at cp
    simp only [List.set_cons_succ, List.set_cons_zero] at cp
    have s3 := st_a hB (bx := [u8l (lq o b p.data), pt f p, u8l (zero 64)]) (k := 2) (b := zero 64) (c := lq o b p.data) rfl zl6 hlen
    simp only [List.set_cons_succ, List.set_cons_zero] at s3
    have stq := (And.intro (box_agg) (And.intro (aB) (And.intro (lB) (And.intro (hb) (And.intro (hlen) (And.intro (zl6) (And.intro (fa_pc) (And.intro (lp) (And.intro (ln) (And.intro (c1) (And.intro (g1) (And.intro (g2) (And.intro (g3) (And.intro (g4) (And.intro (g5) (And.intro (g6) (And.intro (z) (And.intro (s1) (And.intro (cp) (s3))))))))))))))))))))
    repeat first
      | ((with_reducible apply ends_bind); case h => first | (simp only [stp, stq]; first | done | rfl) | rfl)
      | ((with_reducible apply ends_t); case h => first | rfl | (simp only [stp, stq]; done))
      | ((with_reducible apply ends_f); case h => first | rfl | (simp only [stp, stq]; done))
    exact ends_some (retq_ct (ld_a hB (b := lq o b p.data) rfl hlen) (frz_agg _ _ _ _))
  · have z : (p.kind == 0) = false := by simp [hk]
    have hr : rm p.kind = 54 := by unfold rm; rw [if_neg hk]
    have hm : mayK p.kind := by unfold mayK; omega
    rw [ho] at g4 g6 lp
    have hop : o + p.data.length ≤ 54 := by omega
    obtain ⟨tt, e, hg⟩ := gotV_ld p.kind b
    have hq := ldV_len p.kind b hb
    have c2 := Load_ev (n := m + 1) (by omega) p.kind b hb hg hq
    unfold layB at hlen ⊢
    rw [if_neg hk, ho, Int.toNat_natCast] at hlen ⊢
    generalize ldV p.kind b = q at *
    have hl := lq_len o q p.data hq hop
    have c3 := Put_ev (n := m + 1) (by omega) p.kind t ht (lq o q p.data) hl
    rw [show putV p.kind t (lq o q p.data) = _ from if_pos hm] at c3
    have s1 : sliceA Try.prog [u8l b, pt f p, u8l (zero 64), u8l q] 38 (.bp 3 0) (some (.v (.int .i64 o))) none none = some (.bsl 3 o (54 - o) 1) := sl_alo hL (k := 3) (b := q) rfl hq .i64 o (by omega)
    have y1 : readA [u8l b, pt f p, u8l (zero 64), u8l q] (byt f p.data) = some (p.data.length, u8l p.data) := by rfl
    have cp := cp_b t8 (bx := [u8l b, pt f p, u8l (zero 64), u8l q]) (k := 3) (off := o) (n := 54 - o) (b := q) (d := p.data) (y := byt f p.data) rfl (by omega) y1 (by omega)
    rw [show q.take o ++ p.data ++ q.drop (o + p.data.length) = lq o q p.data from rfl] at cp
    simp only [List.set_cons_succ, List.set_cons_zero] at cp
    have s3 := st_a hB (bx := [u8l b, pt f p, u8l (zero 64), u8l (lq o q p.data)]) (k := 2) (b := zero 64) (c := blk p.kind.toNat t (lq o q p.data)) rfl zl6 hlen
    simp only [List.set_cons_succ, List.set_cons_zero] at s3
    have stq := (And.intro (box_agg) (And.intro (aB) (And.intro (aL) (And.intro (lB) (And.intro (lL) (And.intro (sL) (And.intro (hb) (And.intro (hl) (And.intro (hq) (And.intro (hlen) (And.intro (zl) (And.intro (zl6) (And.intro (fa_pc) (And.intro (lp) (And.intro (ln) (And.intro (c1) (And.intro (c2) (And.intro (c3) (And.intro (g1) (And.intro (g2) (And.intro (g3) (And.intro (g4) (And.intro (g5) (And.intro (g6) (And.intro (z) (And.intro (frz_agg) (And.intro (s1) (And.intro (cp) (s3)))))))))))))))))))))))))))))
    repeat first
      | ((with_reducible apply ends_bind); case h => first | (simp only [stp, stq]; first | done | rfl) | rfl)
      | ((with_reducible apply ends_t); case h => first | rfl | (simp only [stp, stq]; done))
      | ((with_reducible apply ends_f); case h => first | rfl | (simp only [stp, stq]; done))
    exact ends_some (retq_ct (ld_a hB (b := blk p.kind.toNat t (lq o q p.data)) rfl hlen) (frz_agg _ _ _ _))

/-! ## many patches -/
def foldP (sel : Int → Bool) (t : Nat) : List Pt → List UInt8 → Option (List UInt8)
  | [], c => some c
  | p :: l, c => if sel p.id then (if badP p then none else foldP sel t l (layB c t p)) else foldP sel t l c
theorem foldP_cons (sel : Int → Bool) (t : Nat) (p : Pt) (l : List Pt) (c : List UInt8) : foldP sel t (p :: l) c = if sel p.id then (if badP p then none else foldP sel t l (layB c t p)) else foldP sel t l c := rfl
theorem foldP_len (sel : Int → Bool) (t : Nat) (l : List Pt) (c d : List UInt8) (hc : c.length = 64) (h : foldP sel t l c = some d) : d.length = 64 := by
  induction l generalizing c with
  | nil => cases h; exact hc
  | cons p l ih =>
    unfold foldP at h
    split at h
    · split at h
      · cases h
      · rename_i hb
        exact ih _ (layB_len c t p hc hb) h
    · exact ih _ hc h
theorem ld_pt3 (f : Bool) (A B C : List AV) (p : Pt) (r : Bx) : loadA Try.prog 34 (A :: B :: C :: pt f p :: r) (.bp 3 0) = some (.agg (pt f p)) ∧ loadA Try.prog 3 (A :: B :: C :: pt f p :: r) (.bp 3 0) = some (.v (.int .i64 p.id)) := ⟨by kernel_rfl, by kernel_rfl⟩
theorem st_pt3 (f : Bool) (A B C : List AV) (p : Pt) (r : Bx) : stA Try.prog 34 (A :: B :: C :: pz :: r) (.bp 3 0) (.agg (pt f p)) = some (.v undef, A :: B :: C :: pt f p :: r) := by kernel_rfl
theorem over_gen {n : Nat} (hn : 480 ≤ n) (f : Bool) (b : List UInt8) (hb : b.length = 64) (L : List Pt) (hL20 : L.length ≤ 400) (hd : ∀ p ∈ L, p.data.length < 2 ^ 32) (fv : AV) (sel : Int → Bool) (hk : ∀ q, AV.keep q fv = fv)
    (hv : ∀ bx x, callV (evFn cx0 ext0 n) md0 bx [.v (.int .i64 x)] fv = some (.v (.bool (sel x)), bx)) :
    cf (evFn cx0 ext0 (n + 1)) 27 [.agg (u8l b), psg f L, fv] = some (overV b (foldP sel (nxtT b) L b)) := by
  have ht : nxtT b < 4294967296 := by
    unfold nxtT
    split <;> omega
  have c1 := Turn_ev (n := n) (by omega) b hb
  generalize nxtT b = t at *
  have lB := lds hB
  have sB := sts hB
  have aB := al_a hB
  have zl6 : (zero 64).length = 64 := rfl
  have l1 := len_g f L
  unfold cf
  rw [E_roll_over]
  refine ends_cf (P := Try.prog) ?_
  unfold F_roll_over
  have stq := (And.intro (box_agg) (And.intro (aB) (And.intro (lB) (And.intro (sB) (And.intro (hb) (And.intro (zl6) (And.intro (frz_agg) (And.intro (c1) (l1)))))))))
  repeat first
    | ((with_reducible apply ends_bind); case h => first | (simp only [stp, stq]; first | done | rfl) | rfl)
    | ((with_reducible apply ends_t); case h => first | rfl | (simp only [stp, stq]; done))
    | ((with_reducible apply ends_f); case h => first | rfl | (simp only [stp, stq]; done))
  refine ends_loop (fun kk s => ∃ (j : Nat) (y0 y1 y2 : AV) (d0 d1 d2 : List AV) (c : List UInt8), s = ⟨[(19, .v (.int .i64 j)), (18, .v (.int .i64 L.length)), (17, psg f L), (9, .v (.int .u32 t)), (8, .bp 2 0), (7, .v (.int .i64 0)), (6, .bp 1 0), (3, .bp 0 0), (0, y0), (1, y1), (2, y2)], [d0, d1, d2]⟩ ∧ d0 = u8l b ∧ d1 = u8l (zero 64) ∧ d2 = u8l c ∧ y2 = fv ∧ c.length = 64 ∧ foldP sel t L b = foldP sel t (L.drop j) c ∧ j + kk = L.length) L.length (by omega) ⟨0, _, _, _, _, _, _, b, rfl, rfl, rfl, rfl, rfl, hb, rfl, by omega⟩ ?_
  rintro kk s ⟨j, y0, y1, y2, d0, d1, d2, c, rfl, rfl, rfl, rfl, rfl, hc, hR, hj⟩
  refine L_roll_over_0_lit ?_
  unfold B_roll_over_0
  by_cases hx : j < L.length
  · have g0 : decide ((j : Int) < (L.length : Int)) = true := decide_eq_true (by omega)
    have i0 := idx_g f L j hx
    have q0 := fun bx => ld_g bx f L[j] (flatP false (L.drop (j + 1)))
    have e3 : IntKind.i64.wrap ((j : Int) + 1) = ((j + 1 : Nat) : Int) := by rw [wrap64]; omega
    have st3 := fun r => st_pt3 false (u8l b) (u8l (zero 64)) (u8l c) L[j] r
    have lp3 := fun r => ld_pt3 false (u8l b) (u8l (zero 64)) (u8l c) L[j] r
    have hfz : ∀ bx, frz bx true 6 (.agg (pt false L[j])) = .agg (pt false L[j]) := fun bx => by
      show AV.agg ((pt false L[j]).map (frz bx true 5)) = _
      rw [pt_frz]
    have hu := List.drop_eq_getElem_cons hx
    rw [hu, foldP_cons] at hR
    have hdj := hd L[j] (List.getElem_mem hx)
    by_cases hs : sel L[j].id = true
    · rw [if_pos hs] at hR
      have c2 := Lay_gen (n := n) (by omega) false c hc L[j] hdj t ht
      by_cases hbad : badP L[j]
      · rw [if_pos hbad] at hR c2
        unfold overV at c2
        rw [hR]
        have z : ((2 : Int) != 0) = true := rfl
        have s4 := st_a hB (P := Try.prog) (bx := [u8l b, u8l (zero 64), u8l c, pt false L[j], u8l (zero 64)]) (k := 4) (b := zero 64) (c := c) rfl zl6 hc
        simp only [List.set_cons_succ, List.set_cons_zero] at s4
        have s5 := st_a hB (P := Try.prog) (bx := [u8l b, u8l (zero 64), u8l c, pt false L[j], u8l c]) (k := 1) (b := zero 64) (c := b) rfl zl6 hb
        simp only [List.set_cons_succ, List.set_cons_zero] at s5
        have stq := (And.intro (g0) (And.intro (i0) (And.intro (q0) (And.intro (al_pz) (And.intro (st3) (And.intro (lp3) (And.intro (fa_pc) (And.intro (hv) (And.intro (hs) (And.intro (n_tf) (And.intro (lB) (And.intro (hb) (And.intro (hc) (And.intro (zl6) (And.intro (frz_agg) (And.intro (hfz) (And.intro (c2) (And.intro (aB) (And.intro (s4) (And.intro (s5) (z)))))))))))))))))))))
        repeat first
          | ((with_reducible apply ends_bind); case h => first | (simp only [stp, stq]; first | done | rfl) | rfl)
          | ((with_reducible apply ends_t); case h => first | rfl | (simp only [stp, stq]; done))
          | ((with_reducible apply ends_f); case h => first | rfl | (simp only [stp, stq]; done))
        exact ends_some (.inr (.inr ⟨rfl, retq_ct (ld_a hB (b := b) rfl hb) (frz_agg _ _ _ _)⟩))
      · rw [if_neg hbad] at hR c2
        unfold overV at c2
        have hn2 := layB_len c t L[j] hc hbad
        have z : ((0 : Int) != 0) = false := rfl
        generalize layB c t L[j] = d at *
        have s4 := st_a hB (P := Try.prog) (bx := [u8l b, u8l (zero 64), u8l c, pt false L[j], u8l (zero 64)]) (k := 4) (b := zero 64) (c := d) rfl zl6 hn2
        simp only [List.set_cons_succ, List.set_cons_zero] at s4
        have s5 := st_a hB (P := Try.prog) (bx := [u8l b, u8l (zero 64), u8l c, pt false L[j], u8l d]) (k := 2) (b := c) (c := d) rfl hc hn2
        simp only [List.set_cons_succ, List.set_cons_zero] at s5
        have stq := (And.intro (g0) (And.intro (i0) (And.intro (q0) (And.intro (al_pz) (And.intro (st3) (And.intro (lp3) (And.intro (fa_pc) (And.intro (hv) (And.intro (hs) (And.intro (n_tf) (And.intro (lB) (And.intro (hb) (And.intro (hc) (And.intro (hn2) (And.intro (zl6) (And.intro (frz_agg) (And.intro (hfz) (And.intro (c2) (And.intro (aB) (And.intro (s4) (And.intro (s5) (And.intro (z) (e3)))))))))))))))))))))))
        repeat first
          | ((with_reducible apply ends_bind); case h => first | (simp only [stp, stq]; first | done | rfl) | rfl)
          | ((with_reducible apply ends_t); case h => first | rfl | (simp only [stp, stq]; done))
          | ((with_reducible apply ends_f); case h => first | rfl | (simp only [stp, stq]; done))
        exact ends_some (.inl ⟨rfl, kk - 1, by omega, j + 1, _, _, _, _, _, _, d, by first | rfl | (rw [← e3]; rfl), u8l_keep _ _, u8l_keep _ _, u8l_keep _ _, hk _, hn2, hR, by omega⟩)
    · rw [if_neg hs] at hR
      have hs' : sel L[j].id = false := by simpa using hs
      have stq := (And.intro (g0) (And.intro (i0) (And.intro (q0) (And.intro (al_pz) (And.intro (st3) (And.intro (lp3) (And.intro (fa_pc) (And.intro (hv) (And.intro (hs') (And.intro (n_ft) (e3)))))))))))
      repeat first
        | ((with_reducible apply ends_bind); case h => first | (simp only [stp, stq]; first | done | rfl) | rfl)
        | ((with_reducible apply ends_t); case h => first | rfl | (simp only [stp, stq]; done))
        | ((with_reducible apply ends_f); case h => first | rfl | (simp only [stp, stq]; done))
      exact ends_some (.inl ⟨rfl, kk - 1, by omega, j + 1, _, _, _, _, _, _, c, by first | rfl | (rw [← e3]; rfl), u8l_keep _ _, u8l_keep _ _, u8l_keep _ _, hk _, hc, hR, by omega⟩)
  · have g0 : decide ((j : Int) < (L.length : Int)) = false := decide_eq_false (by omega)
    have he : foldP sel t L b = some c := by
      rw [hR, List.drop_eq_nil_of_le (by omega)]
      rfl
    rw [he]
    have stq := (g0)
    repeat first
      | ((with_reducible apply ends_bind); case h => first | (simp only [stp, stq]; first | done | rfl) | rfl)
      | ((with_reducible apply ends_t); case h => first | rfl | (simp only [stp, stq]; done))
      | ((with_reducible apply ends_f); case h => first | rfl | (simp only [stp, stq]; done))
    refine ends_some (.inr (.inl ⟨0, rfl, X_roll_over_0_0_lit ?_⟩))
    unfold X_roll_over_0_0
    have stq := (And.intro (lB) (And.intro (sB) (And.intro (hc) (zl6))))
    repeat first
      | ((with_reducible apply ends_bind); case h => first | (simp only [stp, stq]; first | done | rfl) | rfl)
      | ((with_reducible apply ends_t); case h => first | rfl | (simp only [stp, stq]; done))
      | ((with_reducible apply ends_f); case h => first | rfl | (simp only [stp, stq]; done))
    exact ends_some (retq_ct (ld_a hB (b := c) rfl hc) (frz_agg _ _ _ _))
def yes : Int → Bool := fun _ => true
theorem Now_gen {n : Nat} (hn : 490 ≤ n) (f : Bool) (b : List UInt8) (hb : b.length = 64) (L : List Pt) (hL20 : L.length ≤ 400) (hd : ∀ p ∈ L, p.data.length < 2 ^ 32) :
    cf (evFn cx0 ext0 n) 10 [.agg (u8l b), psg f L] = some (overV b (foldP yes (nxtT b) L b)) := by
  obtain ⟨m, rfl⟩ : ∃ m, n = m + 3 := ⟨n - 3, by omega⟩
  have hv : ∀ bx x, callV (evFn cx0 ext0 (m + 1)) md0 bx [.v (.int .i64 x)] (.fn 28 [] []) = some (.v (.bool (yes x)), bx) := by
    intro bx x
    rw [callV_fn]
    rw [call_f]
    simp only [List.map_cons, List.map_nil, frz_v]
    rw [yes_ev m]
    rfl
  have c1 := over_gen (n := m + 1) (by omega) f b hb L hL20 hd (.fn 28 [] []) yes (fun _ => rfl) hv
  have hlen : ∀ d, foldP yes (nxtT b) L b = some d → d.length = 64 := fun d h => foldP_len _ _ _ _ _ hb h
  have lB := lds hB
  have sB := sts hB
  have aB := al_a hB
  have zl6 : (zero 64).length = 64 := rfl
  have fp : ∀ bx, frz bx true 6 (psg f L) = psg f L := fun bx => frz_psg bx f L
  unfold cf
  rw [E_roll_Now]
  refine ends_cf (P := Try.prog) ?_
  unfold F_roll_Now
  generalize foldP yes (nxtT b) L b = R at *
  rcases R with _ | d
  · unfold overV at c1 ⊢
    have stq := (And.intro (box_agg) (And.intro (aB) (And.intro (lB) (And.intro (sB) (And.intro (hb) (And.intro (zl6) (And.intro (frz_agg) (And.intro (fp) (And.intro (frz_fn0) (c1))))))))))
    repeat first
      | ((with_reducible apply ends_bind); case h => first | (simp only [stp, stq]; first | done | rfl) | rfl)
      | ((with_reducible apply ends_t); case h => first | rfl | (simp only [stp, stq]; done))
      | ((with_reducible apply ends_f); case h => first | rfl | (simp only [stp, stq]; done))
    exact ends_some (retq_ct (ld_a hB (b := b) rfl hb) (frz_agg _ _ _ _))
  · have hdl := hlen d rfl
    unfold overV at c1 ⊢
    have stq := (And.intro (box_agg) (And.intro (aB) (And.intro (lB) (And.intro (sB) (And.intro (hb) (And.intro (hdl) (And.intro (zl6) (And.intro (frz_agg) (And.intro (fp) (And.intro (frz_fn0) (c1)))))))))))
    repeat first
      | ((with_reducible apply ends_bind); case h => first | (simp only [stp, stq]; first | done | rfl) | rfl)
      | ((with_reducible apply ends_t); case h => first | rfl | (simp only [stp, stq]; done))
      | ((with_reducible apply ends_f); case h => first | rfl | (simp only [stp, stq]; done))
    exact ends_some (retq_ct (ld_a hB (b := d) rfl hdl) (frz_agg _ _ _ _))
end Go.Sy

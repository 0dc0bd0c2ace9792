/-
  Layer 04: what the document's disk does to its boxes: its supply, its sectors. Layer 04: what the document's disk does to its boxes: Write and Force. Layer 04: what the document's disk does to its boxes: Force, Flush, Crash, Load. Layer 04: what the document's disk does to its boxes: Crash and Load.
-/
import Derived.Test.YtijmfjpcjceejaaLwFls
namespace Go.Sy
open Go.Proofs

abbrev Wl := List (Option Sq)
def wc : Option Sq → AV
  | none => nilS
  | some q => gv q
def wq : Option Sq → List UInt8
  | some q => q.2
  | none => []
/-- what waits for a sector -/
def wtl (wt : Wl) (k : Nat) : List UInt8 := match wt[k]? with
  | some (some q) => q.2
  | _ => []
def shr (c : List UInt8) (wt : Wl) (k : Nat) : List UInt8 := if 0 < (wtl wt k).length then bk (wtl wt k) ((wtl wt k).length / 64 - 1) else bk c k
theorem s1i : szA Try.prog 3 = some 1 ∧ agA Try.prog 3 = some false ∧ szA Try.prog 4 = some 1 ∧ agA Try.prog 4 = some false := ⟨by kernel_rfl, by kernel_rfl, by kernel_rfl, by kernel_rfl⟩
theorem ld_1 {P : Program} {t : TypeId} (h1 : szA P t = some 1) (h2 : agA P t = some false) {bx : Bx} {q j : Nat} {L : List AV} (h : bx[q]? = some L) {x : AV} (hx : L[j]? = some x) : loadA P t bx (.bp q j) = some x := by
  simp only [loadA, h, Option.bind_some, partA, h1, h2]
  exact hx
theorem st_1 {P : Program} {t : TypeId} (h1 : szA P t = some 1) {bx : Bx} {q j : Nat} {L : List AV} (h : bx[q]? = some L) (hj : j < L.length) {x : AV} (hk : x.okc = true) (hc : x.cells = [x]) : stA P t bx (.bp q j) x = some (.v undef, bx.set q (L.set j x)) := by
  unfold stA storeA
  simp only [h1, h, Option.bind_some]
  rw [if_pos ⟨hk, by rw [hc]; rfl, by omega⟩, hc]
  rfl
/-! ## its supply -/
theorem fa59 (q : Nat) : fieldAddrA Try.prog 59 (.bp q 0) 0 = some (.bp q 0) ∧ fieldAddrA Try.prog 59 (.bp q 0) 1 = some (.bp q 1) ∧ fieldAddrA Try.prog 59 (.bp q 0) 2 = some (.bp q 2) := ⟨by kernel_rfl, by kernel_rfl, by kernel_rfl⟩
theorem fa69 (q : Nat) : fieldAddrA Try.prog 69 (.bp q 0) 0 = some (.bp q 0) ∧ fieldAddrA Try.prog 69 (.bp q 0) 1 = some (.bp q 1) ∧ fieldAddrA Try.prog 69 (.bp q 0) 2 = some (.bp q 2) := ⟨by kernel_rfl, by kernel_rfl, by kernel_rfl⟩
theorem nl (q : Nat) : nilA (.bp q 0) = some (.bp q 0) := rfl
theorem lds3 {bx : Bx} {q : Nat} {l u : Int} {g : Bool} (h : bx[q]? = some (sup l u g)) : loadA Try.prog 3 bx (.bp q 0) = some (.v (.int .i64 l)) ∧ loadA Try.prog 3 bx (.bp q 1) = some (.v (.int .i64 u)) ∧ loadA Try.prog 4 bx (.bp q 2) = some (.v (.bool g)) :=
  ⟨ld_1 s1i.1 s1i.2.1 h rfl, ld_1 s1i.1 s1i.2.1 h rfl, ld_1 s1i.2.2.1 s1i.2.2.2 h rfl⟩
theorem sts3 {bx : Bx} {q : Nat} {l u : Int} {g : Bool} (h : bx[q]? = some (sup l u g)) : (∀ l' : Int, stA Try.prog 3 bx (.bp q 0) (.v (.int .i64 l')) = some (.v undef, bx.set q (sup l' u g))) ∧ (∀ u' : Int, stA Try.prog 3 bx (.bp q 1) (.v (.int .i64 u')) = some (.v undef, bx.set q (sup l u' g))) ∧
    (∀ g' : Bool, stA Try.prog 4 bx (.bp q 2) (.v (.bool g')) = some (.v undef, bx.set q (sup l u g'))) :=
  ⟨fun _ => st_1 s1i.1 h (by simp [sup]) rfl rfl, fun _ => st_1 s1i.1 h (by simp [sup]) rfl rfl, fun _ => st_1 s1i.2.2.1 h (by simp [sup]) rfl rfl⟩
abbrev useS (l u : Int) (g : Bool) : List AV := sup (useE l u g).2.1 (useE l u g).2.2.1 (useE l u g).2.2.2
theorem ruse (k : Nat) {bx : Bx} {q : Nat} {l u : Int} {g : Bool} (h : bx[q]? = some (sup l u g)) : evFn cx0 ext0 (k + 1) 41 [.bp q 0] bx = some (.v (.int .i64 (useE l u g).1), bx.set q (useS l u g)) := by
  have hlt := (List.getElem?_eq_some_iff.1 h).1
  have fa := fa59 q
  have nl := nl q
  obtain ⟨ld0, ld1, ld2⟩ := lds3 h
  obtain ⟨st0, st1, st2⟩ := sts3 h
  rw [E_r03_Supply_Use]
  refine ends_fin (P := Try.prog) ?_
  unfold F_r03_Supply_Use useS useE
  cases g with
  | true =>
    have st2 := st2 true
    rw [if_pos (.inl rfl)]
    have stq := (And.intro (nl) (And.intro (fa) (And.intro (ld2) (st2))))
    repeat first
      | ((with_reducible apply ends_bind); case h => first | (simp only [stp, stq]; first | done | rfl) | rfl)
      | ((with_reducible apply ends_t); case h => first | rfl | (simp only [stp, stq]; done))
      | ((with_reducible apply ends_f); case h => first | rfl | (simp only [stp, stq]; done))
    exact ends_some ⟨.inl rfl, _, rfl, rfl⟩
  | false =>
    by_cases h0 : l = 0
    · subst h0
      have z : ((0 : Int) == 0) = true := rfl
      have st2 := st2 true
      rw [if_pos (.inr rfl)]
      have stq := (And.intro (nl) (And.intro (fa) (And.intro (ld2) (And.intro (ld0) (And.intro (z) (st2))))))
      repeat first
        | ((with_reducible apply ends_bind); case h => first | (simp only [stp, stq]; first | done | rfl) | rfl)
        | ((with_reducible apply ends_t); case h => first | rfl | (simp only [stp, stq]; done))
        | ((with_reducible apply ends_f); case h => first | rfl | (simp only [stp, stq]; done))
      exact ends_some ⟨.inl rfl, _, rfl, rfl⟩
    · have c1 : (l == 0) = false := by simpa using h0
      rw [if_neg (by simp [h0])]
      by_cases h1 : 0 < l
      · have c2 : decide (0 < l) = true := decide_eq_true h1
        rw [if_pos h1]
        have st0 := st0 (IntKind.i64.wrap (l - 1))
        have hq1 : (bx.set q (sup (IntKind.i64.wrap (l - 1)) u false))[q]? = some (sup (IntKind.i64.wrap (l - 1)) u false) := List.getElem?_set_self hlt
        have ld1' := (lds3 hq1).2.1
        have st1' := (sts3 hq1).2.1 (IntKind.i64.wrap (u + 1))
        rw [List.set_set] at st1'
        generalize bx.set q (sup (IntKind.i64.wrap (l - 1)) u false) = b1 at *
        have stq := (And.intro (nl) (And.intro (fa) (And.intro (ld2) (And.intro (ld0) (And.intro (c1) (And.intro (c2) (And.intro (st0) (And.intro (ld1') (st1')))))))))
        repeat first
          | ((with_reducible apply ends_bind); case h => first | (simp only [stp, stq]; first | done | rfl) | rfl)
          | ((with_reducible apply ends_t); case h => first | rfl | (simp only [stp, stq]; done))
          | ((with_reducible apply ends_f); case h => first | rfl | (simp only [stp, stq]; done))
        exact ends_some ⟨.inl rfl, _, rfl, rfl⟩
      · have c2 : decide (0 < l) = false := decide_eq_false h1
        rw [if_neg h1]
        have st1 := st1 (IntKind.i64.wrap (u + 1))
        have stq := (And.intro (nl) (And.intro (fa) (And.intro (ld2) (And.intro (ld0) (And.intro (c1) (And.intro (c2) (And.intro (ld1) (st1))))))))
        repeat first
          | ((with_reducible apply ends_bind); case h => first | (simp only [stp, stq]; first | done | rfl) | rfl)
          | ((with_reducible apply ends_t); case h => first | rfl | (simp only [stp, stq]; done))
          | ((with_reducible apply ends_f); case h => first | rfl | (simp only [stp, stq]; done))
        exact ends_some ⟨.inl rfl, _, rfl, rfl⟩
theorem rlimit (k : Nat) {bx : Bx} {q : Nat} {l u : Int} {g : Bool} (h : bx[q]? = some (sup l u g)) (m : Int) : evFn cx0 ext0 (k + 1) 34 [.bp q 0, .v (.int .i64 m)] bx = if m < 0 then some (.v (.int .i64 2), bx) else some (.v (.int .i64 0), bx.set q (sup m u g)) := by
  have fa := fa59 q
  have nl := nl q
  have st0 := (sts3 h).1 m
  rw [E_r03_Supply_Limit]
  split
  · rename_i hm
    have g0 : decide (m < 0) = true := decide_eq_true hm
    refine ends_fin (P := Try.prog) ?_
    unfold F_r03_Supply_Limit
    have stq := (g0)
    repeat first
      | ((with_reducible apply ends_bind); case h => first | (simp only [stp, stq]; first | done | rfl) | rfl)
      | ((with_reducible apply ends_t); case h => first | rfl | (simp only [stp, stq]; done))
      | ((with_reducible apply ends_f); case h => first | rfl | (simp only [stp, stq]; done))
    exact ends_some ⟨.inl rfl, _, rfl, rfl⟩
  · rename_i hm
    have g0 : decide (m < 0) = false := decide_eq_false hm
    refine ends_fin (P := Try.prog) ?_
    unfold F_r03_Supply_Limit
    have stq := (And.intro (g0) (And.intro (nl) (And.intro (fa) (st0))))
    repeat first
      | ((with_reducible apply ends_bind); case h => first | (simp only [stp, stq]; first | done | rfl) | rfl)
      | ((with_reducible apply ends_t); case h => first | rfl | (simp only [stp, stq]; done))
      | ((with_reducible apply ends_f); case h => first | rfl | (simp only [stp, stq]; done))
    exact ends_some ⟨.inl rfl, _, rfl, rfl⟩
theorem plimit (k : Nat) {bx : Bx} {q : Nat} {l u : Int} {g : Bool} (h : bx[q]? = some (sup l u g)) (m : Int) : evFn cx0 ext0 (k + 1) 33 [.bp q 0, .v (.int .i64 m)] bx = if m < 0 then some (.v (.int .i64 2), bx) else some (.v (.int .i64 0), bx.set q (sup m u g)) := by
  have fa := fa69 q
  have nl := nl q
  have st0 := (sts3 h).1 m
  have pn : binA Try.prog .eql 47 (.bp q 0) (.v (.pointer none)) = some (.v (.bool false)) := by kernel_rfl
  rw [E_power_Supply_Limit]
  split
  · rename_i hm
    have g0 : decide (m < 0) = true := decide_eq_true hm
    refine ends_fin (P := Try.prog) ?_
    unfold F_power_Supply_Limit
    have stq := (And.intro (pn) (g0))
    repeat first
      | ((with_reducible apply ends_bind); case h => first | (simp only [stp, stq]; first | done | rfl) | rfl)
      | ((with_reducible apply ends_t); case h => first | rfl | (simp only [stp, stq]; done))
      | ((with_reducible apply ends_f); case h => first | rfl | (simp only [stp, stq]; done))
    exact ends_some ⟨.inl rfl, _, rfl, rfl⟩
  · rename_i hm
    have g0 : decide (m < 0) = false := decide_eq_false hm
    refine ends_fin (P := Try.prog) ?_
    unfold F_power_Supply_Limit
    have stq := (And.intro (pn) (And.intro (g0) (And.intro (nl) (And.intro (fa) (st0)))))
    repeat first
      | ((with_reducible apply ends_bind); case h => first | (simp only [stp, stq]; first | done | rfl) | rfl)
      | ((with_reducible apply ends_t); case h => first | rfl | (simp only [stp, stq]; done))
      | ((with_reducible apply ends_f); case h => first | rfl | (simp only [stp, stq]; done))
    exact ends_some ⟨.inl rfl, _, rfl, rfl⟩
theorem rrestore (k : Nat) {bx : Bx} {q : Nat} {l u : Int} {g : Bool} (h : bx[q]? = some (sup l u g)) : evFn cx0 ext0 (k + 1) 36 [.bp q 0] bx = some (.tup [], bx.set q (sup (-1) u false)) := by
  have hlt := (List.getElem?_eq_some_iff.1 h).1
  have fa := fa59 q
  have nl := nl q
  have st2 := (sts3 h).2.2 false
  have hq1 : (bx.set q (sup l u false))[q]? = some (sup l u false) := List.getElem?_set_self hlt
  have st0 := (sts3 hq1).1 (-1)
  rw [List.set_set] at st0
  generalize bx.set q (sup l u false) = b1 at *
  rw [E_r03_Supply_Restore]
  refine ends_fin (P := Try.prog) ?_
  unfold F_r03_Supply_Restore
  have stq := (And.intro (nl) (And.intro (fa) (And.intro (st2) (st0))))
  repeat first
    | ((with_reducible apply ends_bind); case h => first | (simp only [stp, stq]; first | done | rfl) | rfl)
    | ((with_reducible apply ends_t); case h => first | rfl | (simp only [stp, stq]; done))
    | ((with_reducible apply ends_f); case h => first | rfl | (simp only [stp, stq]; done))
  exact ends_some ⟨.inr rfl, _, rfl, rfl⟩
theorem prestore (k : Nat) {bx : Bx} {q : Nat} {l u : Int} {g : Bool} (h : bx[q]? = some (sup l u g)) : evFn cx0 ext0 (k + 1) 35 [.bp q 0] bx = some (.tup [], bx.set q (sup (-1) u false)) := by
  have hlt := (List.getElem?_eq_some_iff.1 h).1
  have fa := fa69 q
  have nl := nl q
  have st2 := (sts3 h).2.2 false
  have pn : binA Try.prog .neq 47 (.bp q 0) (.v (.pointer none)) = some (.v (.bool true)) := by kernel_rfl
  have hq1 : (bx.set q (sup l u false))[q]? = some (sup l u false) := List.getElem?_set_self hlt
  have st0 := (sts3 hq1).1 (-1)
  rw [List.set_set] at st0
  generalize bx.set q (sup l u false) = b1 at *
  rw [E_power_Supply_Restore]
  refine ends_fin (P := Try.prog) ?_
  unfold F_power_Supply_Restore
  have stq := (And.intro (pn) (And.intro (nl) (And.intro (fa) (And.intro (st2) (st0)))))
  repeat first
    | ((with_reducible apply ends_bind); case h => first | (simp only [stp, stq]; first | done | rfl) | rfl)
    | ((with_reducible apply ends_t); case h => first | rfl | (simp only [stp, stq]; done))
    | ((with_reducible apply ends_f); case h => first | rfl | (simp only [stp, stq]; done))
  exact ends_some ⟨.inr rfl, _, rfl, rfl⟩
theorem pgone (k : Nat) (l u : Int) (g : Bool) (f : Bool) : cf (evFn cx0 ext0 (k + 1)) 23 [.ip (sup l u g) f] = some (.v (.bool g)) := by kernel_rfl
/-! ## its sectors -/
structure RB (R : Nat → Prop) (bx : Bx) (ry rs rw_ rq n : Nat) (l u : Int) (g : Bool) (z : Int) (c : List UInt8) (wt : Wl) : Prop where
  hy : bx[ry]? = some [.bp rq 0, .bsl rs 0 n 64, .bsl rw_ 0 n 1, .v (.int .i64 z)]
  hs : bx[rs]? = some (u8l c)
  hc : c.length = n * 64
  hw : bx[rw_]? = some (wt.map wc)
  hl : wt.length = n
  hq : ∀ q, some q ∈ wt → bx[q.1]? = some (u8l q.2) ∧ q.2.length % 64 = 0 ∧ 0 < q.2.length ∧ q.2.length ≤ 64 * 100 ∧ R q.1 ∧ q.1 ≠ ry ∧ q.1 ≠ rs ∧ q.1 ≠ rw_ ∧ q.1 ≠ rq
  hp : bx[rq]? = some (sup l u g)
  ne : ry ≠ rs ∧ ry ≠ rw_ ∧ ry ≠ rq ∧ rs ≠ rw_ ∧ rs ≠ rq ∧ rw_ ≠ rq
  od : R ry ∧ R rs ∧ R rw_ ∧ R rq
  hR : ∀ j, R j → j < bx.length
theorem RB.frame {R : Nat → Prop} {bx bx' : Bx} {ry rs rw_ rq n : Nat} {l u : Int} {g : Bool} {z : Int} {c : List UInt8} {wt : Wl} (B : RB R bx ry rs rw_ rq n l u g z c wt) (h : ∀ i, R i → i < bx.length → bx'[i]? = bx[i]?) (hlen : bx.length ≤ bx'.length) : RB R bx' ry rs rw_ rq n l u g z c wt := by
  have g' : ∀ {i : Nat} {l : List AV}, R i → bx[i]? = some l → bx'[i]? = some l := fun {i l} ho hl => by rw [h i ho (List.getElem?_eq_some_iff.1 hl).1]; exact hl
  exact ⟨g' B.od.1 B.hy, g' B.od.2.1 B.hs, B.hc, g' B.od.2.2.1 B.hw, B.hl, fun q hq => by obtain ⟨h1, h2, h3, h4, h5, h6⟩ := B.hq q hq; exact ⟨g' h5 h1, h2, h3, h4, h5, h6⟩, g' B.od.2.2.2 B.hp, B.ne, B.od, fun j hj => by have := B.hR j hj; omega⟩
theorem RB.app {R : Nat → Prop} {bx : Bx} {ry rs rw_ rq n : Nat} {l u : Int} {g : Bool} {z : Int} {c : List UInt8} {wt : Wl} (B : RB R bx ry rs rw_ rq n l u g z c wt) (t : Bx) : RB R (bx ++ t) ry rs rw_ rq n l u g z c wt :=
  B.frame (fun i _ hi => List.getElem?_append_left hi) (by simp)
theorem fa57 (q : Nat) : fieldAddrA Try.prog 57 (.bp q 0) 0 = some (.bp q 0) ∧ fieldAddrA Try.prog 57 (.bp q 0) 1 = some (.bp q 1) ∧ fieldAddrA Try.prog 57 (.bp q 0) 2 = some (.bp q 2) ∧ fieldAddrA Try.prog 57 (.bp q 0) 3 = some (.bp q 3) := ⟨by kernel_rfl, by kernel_rfl, by kernel_rfl, by kernel_rfl⟩
theorem s55 : szA Try.prog 55 = some 1 ∧ agA Try.prog 55 = some false ∧ szA Try.prog 49 = some 1 ∧ agA Try.prog 49 = some false := ⟨by kernel_rfl, by kernel_rfl, by kernel_rfl, by kernel_rfl⟩
section
variable {R : Nat → Prop} {bx : Bx} {ry rs rw_ rq n : Nat} {l u : Int} {g : Bool} {z : Int} {c : List UInt8} {wt : Wl}
theorem RB.ld (B : RB R bx ry rs rw_ rq n l u g z c wt) : loadA Try.prog 49 bx (.bp ry 0) = some (.bp rq 0) ∧ loadA Try.prog 35 bx (.bp ry 1) = some (.bsl rs 0 n 64) ∧ loadA Try.prog 55 bx (.bp ry 2) = some (.bsl rw_ 0 n 1) ∧ loadA Try.prog 3 bx (.bp ry 3) = some (.v (.int .i64 z)) :=
  ⟨ld_1 s55.2.2.1 s55.2.2.2 B.hy rfl, ld_1 t36.2.1 t36.2.2 B.hy rfl, ld_1 s55.1 s55.2.1 B.hy rfl, ld_1 s1i.1 s1i.2.1 B.hy rfl⟩
theorem ix_w (q n i : Nat) (hi : i < n) : indexAddrA Try.prog 55 (.bsl q 0 n 1) (.v (.int .i64 i)) = some (.bp q i) := by
  have h : isSl Try.prog 55 = true ∧ elA Try.prog 55 = some 35 := ⟨by kernel_rfl, by kernel_rfl⟩
  unfold indexAddrA
  simp only [h.1, if_true, h.2, t36.2.1, Option.bind_some, idxI]
  rw [if_pos ⟨by omega, by omega⟩]
  simp
theorem RB.ldw (B : RB R bx ry rs rw_ rq n l u g z c wt) {i : Nat} {x : Option Sq} (hi : wt[i]? = some x) : loadA Try.prog 35 bx (.bp rw_ i) = some (wc x) :=
  ld_1 t36.2.1 t36.2.2 B.hw (by rw [List.getElem?_map, hi]; rfl)
theorem RB.at (B : RB R bx ry rs rw_ rq n l u g z c wt) {i : Nat} (hi : i < n) : ∃ x, wt[i]? = some x ∧ wtl wt i = wq x := by
  have h : wt[i]? = some (wt[i]'(by rw [B.hl]; exact hi)) := List.getElem?_eq_getElem (by rw [B.hl]; exact hi)
  refine ⟨_, h, ?_⟩
  unfold wtl
  rw [h]
  generalize wt[i]'(by rw [B.hl]; exact hi) = x
  cases x <;> rfl
theorem ln_w (x : Option Sq) : lenA Try.prog 35 (wc x) = some (.v (.int .i64 ((wq x).length / 64 : Nat))) := by
  cases x with
  | none => kernel_rfl
  | some q => exact ln_gs _ _ _
theorem is_ev (k : Nat) (p w j : AV) (cs : List AV) (n : Nat) (i : Int) : cf (evFn cx0 ext0 (k + 1)) 39 [.ip [p, .sl n cs true, w, j] true, .v (.int .i64 i)] = some (.v (.bool (decide (0 ≤ i ∧ i < (n : Int))))) := by
  unfold cf
  rw [E_r04_Disk_is]
  refine ends_cf (P := Try.prog) ?_
  unfold F_r04_Disk_is
  have nl : nilA (.ip [p, .sl n cs true, w, j] true) = some (.ip [p, .sl n cs true, w, j] true) := rfl
  have fa : fieldAddrA Try.prog 57 (.ip [p, .sl n cs true, w, j] true) 1 = some (.ip [.sl n cs true, w, j] true) := by kernel_rfl
  have ld : loadA Try.prog 35 [] (.ip [.sl n cs true, w, j] true) = some (.sl n cs true) := by kernel_rfl
  have ln : lenA Try.prog 35 (.sl n cs true) = some (.v (.int .i64 n)) := by kernel_rfl
  by_cases h0 : 0 ≤ i
  · have g0 : decide (0 ≤ i) = true := decide_eq_true h0
    have g1 : decide (0 ≤ i ∧ i < (n : Int)) = decide (i < (n : Int)) := by simp [h0]
    rw [g1]
    have stq := (And.intro (g0) (And.intro (nl) (And.intro (fa) (And.intro (ld) (ln)))))
    repeat first
      | ((with_reducible apply ends_bind); case h => first | (simp only [stp, stq]; first | done | rfl) | rfl)
      | ((with_reducible apply ends_t); case h => first | rfl | (simp only [stp, stq]; done))
      | ((with_reducible apply ends_f); case h => first | rfl | (simp only [stp, stq]; done))
    exact ends_some ⟨.inl rfl, _, rfl, by cases decide (i < (n : Int)) <;> rfl⟩
  · have g0 : decide (0 ≤ i) = false := decide_eq_false h0
    have g1 : decide (0 ≤ i ∧ i < (n : Int)) = false := decide_eq_false (by omega)
    rw [g1]
    have stq := (g0)
    repeat first
      | ((with_reducible apply ends_bind); case h => first | (simp only [stp, stq]; first | done | rfl) | rfl)
      | ((with_reducible apply ends_t); case h => first | rfl | (simp only [stp, stq]; done))
      | ((with_reducible apply ends_f); case h => first | rfl | (simp only [stp, stq]; done))
    exact ends_some ⟨.inl rfl, _, rfl, rfl⟩
theorem RB.isc (B : RB R bx ry rs rw_ rq n l u g z c wt) (k : Nat) {md : FuncId → Md} (hm : md 39 = .frozen) (i : Int) :
    callA (evFn cx0 ext0 (k + 1)) md bx 39 [.bp ry 0, .v (.int .i64 i)] = some (.v (.bool (decide (0 ≤ i ∧ i < (n : Int)))), bx) := by
  rw [callA_frozen hm]
  have hs : rs < bx.length := B.hR _ B.od.2.1
  have h1 : ([.bp ry 0, .v (.int .i64 i)] : List AV).map (frz bx true 6) = [.ip [frz bx true 5 (.bp rq 0), .sl n ((((bx[rs]'hs).drop 0).take (n * 64)).map (frz bx true 4)) true, frz bx true 5 (.bsl rw_ 0 n 1), .v (.int .i64 z)] true, .v (.int .i64 i)] := by
    simp only [List.map_cons, List.map_nil]
    congr 1
    show (match bx[ry]? with | some l => AV.ip ((l.drop 0).map (frz bx true 5)) true | none => .junk) = _
    rw [B.hy]
    simp only [List.drop_zero, List.map_cons, List.map_nil]
    congr 2
    congr 1
    show (match bx[rs]? with | some l => AV.sl n (((l.drop 0).take (n * 64)).map (frz bx true 4)) true | none => .junk) = _
    rw [List.getElem?_eq_getElem hs]
    rfl
  rw [h1, is_ev]
  rfl
theorem RB.shl (B : RB R bx ry rs rw_ rq n l u g z c wt) {i : Nat} (hi : i < n) : (shr c wt i).length = 64 := by
  obtain ⟨x, hx, hw⟩ := B.at hi
  unfold shr
  split
  · rename_i h
    cases x with
    | none =>
      have hw' : wtl wt i = [] := hw
      rw [hw'] at h
      simp at h
    | some q =>
      have hw' : wtl wt i = q.2 := hw
      rw [hw']
      obtain ⟨q1, q2, q3, q4, _⟩ := B.hq q (List.mem_of_getElem? hx)
      exact bk_len (n := q.2.length / 64) (by omega) (by omega)
  · exact bk_len hi B.hc
theorem rread (k : Nat) (B : RB R bx ry rs rw_ rq n l u g z c wt) (i : Int) : evFn cx0 ext0 (k + 2) 24 [.bp ry 0, .v (.int .i64 i)] bx =
    if 0 ≤ i ∧ i < (n : Int) then some (.tup [.agg (u8l (shr c wt i.toNat)), .v (.int .i64 0)], bx ++ [u8l (shr c wt i.toNat)]) else some (.tup [.agg (u8l (List.replicate 64 0)), .v (.int .i64 2)], bx ++ [u8l (List.replicate 64 0)]) := by
  obtain ⟨bx1, hb1⟩ : ∃ x, x = bx ++ [u8l (List.replicate 64 0)] := ⟨_, rfl⟩
  have al : allocA Try.prog bx 32 = some (.bp bx.length 0, bx1) := by rw [hb1]; exact al_a hB bx
  have B1 : RB R bx1 ry rs rw_ rq n l u g z c wt := by rw [hb1]; exact B.app _
  have hm := B1.isc k (md := md0) rfl i
  have hz : bx1[bx.length]? = some (u8l (List.replicate 64 0)) := by rw [hb1]; simp
  have stn : ∀ b : List UInt8, b.length = 64 → stA Try.prog 32 bx1 (.bp bx.length 0) (.agg (u8l b)) = some (.v undef, bx ++ [u8l b]) := by
    intro b hb
    rw [st_a hB hz (by simp) hb, hb1]
    simp
  have fin : ∀ b : List UInt8, b.length = 64 → loadA Try.prog 32 (bx ++ [u8l b]) (.bp bx.length 0) = some (.agg (u8l b)) := fun b hb => ld_a hB (by simp) hb
  rw [E_r04_Disk_Read]
  split
  · rename_i hi
    rw [decide_eq_true hi] at hm
    obtain ⟨i, rfl⟩ : ∃ j : Nat, i = j := ⟨i.toNat, by omega⟩
    have hin : i < n := by omega
    rw [Int.toNat_natCast]
    have hl := B1.shl hin
    have st := stn _ hl
    have nl := nl ry
    have fa := fa57 ry
    have ld := B1.ld
    have ixw := ix_w rw_ n i hin
    obtain ⟨x, hx, hw⟩ := B1.at hin
    have lw := B1.ldw hx
    have ln := ln_w x
    refine ends_fin (P := Try.prog) ?_
    unfold F_r04_Disk_Read
    cases x with
    | some q =>
      obtain ⟨q1, q2, q3, q4, _⟩ := B1.hq q (List.mem_of_getElem? hx)
      have hsh : shr c wt i = bk q.2 (q.2.length / 64 - 1) := by unfold shr; rw [hw, if_pos (show 0 < (wq (some q)).length from q3)]; rfl
      rw [hsh] at hl st ⊢
      have g1 : decide ((0 : Int) < ((q.2.length / 64 : Nat) : Int)) = true := decide_eq_true (by omega)
      have ew : IntKind.i64.wrap (((q.2.length / 64 : Nat) : Int) - 1) = ((q.2.length / 64 - 1 : Nat) : Int) := by rw [wrap64]; omega
      have ix := ix_gs q.1 (q.2.length / 64) (q.2.length / 64 - 1) .i64 (by omega)
      have lb := ld_gs (j := q.2.length / 64 - 1) (k := q.2.length / 64) q1 (by omega) (by omega)
      have hwc : wc (some q) = .gs q.1 (q.2.length / 64) 64 := rfl
      rw [hwc] at lw ln
      rw [show wq (some q) = q.2 from rfl] at ln
      have stq := (And.intro (al) (And.intro (hm) (And.intro (nl) (And.intro (fa) (And.intro (ld) (And.intro (ixw) (And.intro (lw) (And.intro (ln) (And.intro (g1) (And.intro (ew) (And.intro (ix) (And.intro (lb) (st)))))))))))))
      repeat first
        | ((with_reducible apply ends_bind); case h => first | (simp only [stp, stq]; first | done | rfl) | rfl)
        | ((with_reducible apply ends_t); case h => first | rfl | (simp only [stp, stq]; done))
        | ((with_reducible apply ends_f); case h => first | rfl | (simp only [stp, stq]; done))
      exact ends_some ⟨.inl rfl, [.agg (u8l (bk q.2 (q.2.length / 64 - 1))), .v (.int .i64 0)], by
        simp only [resL, get]
        exact congrArg (Option.bind · _) (fin _ hl), rfl⟩
    | none =>
      have hsh : shr c wt i = bk c i := by unfold shr; rw [hw, if_neg (by simp [wq])]
      rw [hsh] at hl st ⊢
      have ix := ix_bb rs n i .i64 hin
      have lb := ld_bb (j := i) B1.hs B1.hc hin
      have hwc : wc none = nilS := rfl
      rw [hwc] at lw ln
      have ln' : lenA Try.prog 35 nilS = some (.v (.int .i64 0)) := ln
      have g1 : decide ((0 : Int) < 0) = false := rfl
      have stq := (And.intro (al) (And.intro (hm) (And.intro (nl) (And.intro (fa) (And.intro (ld) (And.intro (ixw) (And.intro (lw) (And.intro (ln') (And.intro (g1) (And.intro (ix) (And.intro (lb) (st))))))))))))
      repeat first
        | ((with_reducible apply ends_bind); case h => first | (simp only [stp, stq]; first | done | rfl) | rfl)
        | ((with_reducible apply ends_t); case h => first | rfl | (simp only [stp, stq]; done))
        | ((with_reducible apply ends_f); case h => first | rfl | (simp only [stp, stq]; done))
      exact ends_some ⟨.inl rfl, [.agg (u8l (bk c i)), .v (.int .i64 0)], by
        simp only [resL, get]
        exact congrArg (Option.bind · _) (fin _ hl), rfl⟩
  · rename_i hi
    rw [decide_eq_false hi] at hm
    have bz : buildA Try.prog 32 [] = some (.agg (u8l (List.replicate 64 0))) := by kernel_rfl
    have st := stn (List.replicate 64 0) (by simp)
    refine ends_fin (P := Try.prog) ?_
    unfold F_r04_Disk_Read
    have stq := (And.intro (al) (And.intro (hm) (And.intro (bz) (st))))
    repeat first
      | ((with_reducible apply ends_bind); case h => first | (simp only [stp, stq]; first | done | rfl) | rfl)
      | ((with_reducible apply ends_t); case h => first | rfl | (simp only [stp, stq]; done))
      | ((with_reducible apply ends_f); case h => first | rfl | (simp only [stp, stq]; done))
    exact ends_some ⟨.inl rfl, [.agg (u8l (List.replicate 64 0)), .v (.int .i64 2)], by
      simp only [resL, get]
      exact congrArg (Option.bind · _) (fin _ (by simp)), rfl⟩
end
end Go.Sy

namespace Go.Sy
open Go.Proofs

/-- a step of one side: it touches its own boxes alone, and makes new ones -/
structure Stp (T T' : Nat → Prop) (bx bx' : Bx) : Prop where
  len : bx.length ≤ bx'.length
  fr : ∀ j, j < bx.length → ¬ T j → bx'[j]? = bx[j]?
  nw : ∀ j, T' j → T j ∨ bx.length ≤ j
  gd : Pr0.Good bx → Pr0.Good bx'
theorem Stp.trans {T T1 T2 : Nat → Prop} {a b c : Bx} (h : Stp T T1 a b) (h' : Stp T1 T2 b c) (hs : ∀ j, T j → T1 j) : Stp T T2 a c := by
  refine ⟨Nat.le_trans h.len h'.len, fun j hj ht => ?_, fun j hj => ?_, fun g => h'.gd (h.gd g)⟩
  · rw [h'.fr j (by have := h.len; omega) (fun h1 => (h.nw j h1).elim ht (by omega)), h.fr j hj ht]
  · rcases h'.nw j hj with h1 | h1
    · exact h.nw j h1
    · right; have := h.len; omega
theorem eqCs_sup (l u : Int) (g : Bool) : eqCs (sup l u g) (sup l u g) = true := by
  simp [sup, eqCs, eqC, eqD, eqV]
theorem eqC_gv (q : Sq) : eqC (gv q) (gv q) = true := by simp [gv, eqC, eqD]
theorem eqCs_wt (wt : Wl) : eqCs (wt.map wc) (wt.map wc) = true := by
  induction wt with
  | nil => rfl
  | cons x wt ih =>
    simp only [List.map_cons, eqCs, ih, Bool.and_true]
    cases x with
    | none => rfl
    | some q => exact eqC_gv q
theorem eqCs_ry (rq rs rw_ n : Nat) (z : Int) : eqCs [.bp rq 0, .bsl rs 0 n 64, .bsl rw_ 0 n 1, .v (.int .i64 z)] [.bp rq 0, .bsl rs 0 n 64, .bsl rw_ 0 n 1, .v (.int .i64 z)] = true := by
  simp [eqCs, eqC, eqD, eqV]
section
variable {R : Nat → Prop} {bx : Bx} {ry rs rw_ rq n : Nat} {l u : Int} {g : Bool} {z : Int} {c : List UInt8} {wt : Wl}
theorem RB.sup (B : RB R bx ry rs rw_ rq n l u g z c wt) (l' u' : Int) (g' : Bool) : RB R (bx.set rq (Go.Sy.sup l' u' g')) ry rs rw_ rq n l' u' g' z c wt := by
  have hne : ∀ i, i ≠ rq → (bx.set rq (Go.Sy.sup l' u' g'))[i]? = bx[i]? := fun i hi => List.getElem?_set_ne (Ne.symm hi)
  obtain ⟨n1, n2, n3, n4, n5, n6⟩ := B.ne
  exact ⟨by rw [hne _ n3]; exact B.hy, by rw [hne _ n5]; exact B.hs, B.hc, by rw [hne _ n6]; exact B.hw, B.hl, fun q hq => by obtain ⟨h1, h2, h3, h4, h5, h6, h7, h8, h9⟩ := B.hq q hq; exact ⟨by rw [hne _ h9]; exact h1, h2, h3, h4, h5, h6, h7, h8, h9⟩,
    List.getElem?_set_self (B.hR _ B.od.2.2.2), B.ne, B.od, fun j hj => by rw [List.length_set]; exact B.hR j hj⟩
theorem RB.cnt (B : RB R bx ry rs rw_ rq n l u g z c wt) (z' : Int) : RB R (bx.set ry [.bp rq 0, .bsl rs 0 n 64, .bsl rw_ 0 n 1, .v (.int .i64 z')]) ry rs rw_ rq n l u g z' c wt := by
  have hne : ∀ i, i ≠ ry → (bx.set ry [AV.bp rq 0, .bsl rs 0 n 64, .bsl rw_ 0 n 1, .v (.int .i64 z')])[i]? = bx[i]? := fun i hi => List.getElem?_set_ne (Ne.symm hi)
  obtain ⟨n1, n2, n3, n4, n5, n6⟩ := B.ne
  exact ⟨List.getElem?_set_self (B.hR _ B.od.1), by rw [hne _ (Ne.symm n1)]; exact B.hs, B.hc, by rw [hne _ (Ne.symm n2)]; exact B.hw, B.hl, fun q hq => by obtain ⟨h1, h2, h3, h4, h5, h6, h7, h8, h9⟩ := B.hq q hq; exact ⟨by rw [hne _ h6]; exact h1, h2, h3, h4, h5, h6, h7, h8, h9⟩,
    by rw [hne _ (Ne.symm n3)]; exact B.hp, B.ne, B.od, fun j hj => by rw [List.length_set]; exact B.hR j hj⟩
/-- a sector's list is another one -/
theorem RB.lst (B : RB R bx ry rs rw_ rq n l u g z c wt) (i : Nat) (x : Option Sq) (hx : ∀ q, x = some q → bx[q.1]? = some (u8l q.2) ∧ q.2.length % 64 = 0 ∧ 0 < q.2.length ∧ q.2.length ≤ 64 * 100 ∧ R q.1 ∧ q.1 ≠ ry ∧ q.1 ≠ rs ∧ q.1 ≠ rw_ ∧ q.1 ≠ rq) :
    RB R (bx.set rw_ ((wt.set i x).map wc)) ry rs rw_ rq n l u g z c (wt.set i x) := by
  have hne : ∀ j, j ≠ rw_ → (bx.set rw_ ((wt.set i x).map wc))[j]? = bx[j]? := fun i hi => List.getElem?_set_ne (Ne.symm hi)
  obtain ⟨n1, n2, n3, n4, n5, n6⟩ := B.ne
  refine ⟨by rw [hne _ n2]; exact B.hy, by rw [hne _ n4]; exact B.hs, B.hc, List.getElem?_set_self (B.hR _ B.od.2.2.1), by rw [List.length_set]; exact B.hl, fun q hq => ?_, by rw [hne _ (Ne.symm n6)]; exact B.hp, B.ne, B.od, fun j hj => by rw [List.length_set]; exact B.hR j hj⟩
  have : bx[q.1]? = some (u8l q.2) ∧ q.2.length % 64 = 0 ∧ 0 < q.2.length ∧ q.2.length ≤ 64 * 100 ∧ R q.1 ∧ q.1 ≠ ry ∧ q.1 ≠ rs ∧ q.1 ≠ rw_ ∧ q.1 ≠ rq := by
    rcases List.mem_or_eq_of_mem_set hq with h | h
    · exact B.hq q h
    · exact hx q h.symm
  exact ⟨by rw [hne _ this.2.2.2.2.2.2.2.1]; exact this.1, this.2⟩
/-- the stable bytes are others -/
theorem RB.stb (B : RB R bx ry rs rw_ rq n l u g z c wt) {c' : List UInt8} (hc' : c'.length = n * 64) : RB R (bx.set rs (u8l c')) ry rs rw_ rq n l u g z c' wt := by
  have hne : ∀ i, i ≠ rs → (bx.set rs (u8l c'))[i]? = bx[i]? := fun i hi => List.getElem?_set_ne (Ne.symm hi)
  obtain ⟨n1, n2, n3, n4, n5, n6⟩ := B.ne
  exact ⟨by rw [hne _ n1]; exact B.hy, List.getElem?_set_self (B.hR _ B.od.2.1), hc', by rw [hne _ (Ne.symm n4)]; exact B.hw, B.hl, fun q hq => by obtain ⟨h1, h2, h3, h4, h5, h6, h7, h8, h9⟩ := B.hq q hq; exact ⟨by rw [hne _ h7]; exact h1, h2, h3, h4, h5, h6, h7, h8, h9⟩,
    by rw [hne _ (Ne.symm n5)]; exact B.hp, B.ne, B.od, fun j hj => by rw [List.length_set]; exact B.hR j hj⟩
theorem wtl_set (wt : Wl) (i : Nat) (hi : i < wt.length) (x : Option Sq) (j : Nat) : wtl (wt.set i x) j = if j = i then wq x else wtl wt j := by
  unfold wtl
  by_cases e : j = i
  · subst e
    rw [List.getElem?_set_self hi, if_pos rfl]
    cases x <;> rfl
  · rw [List.getElem?_set_ne (Ne.symm e), if_neg e]
theorem ap_two {bx : Bx} {n0 : Nat} {b : List UInt8} (hb : b.length = 64) (x : Option Sq) (hx : ∀ q, x = some q → bx[q.1]? = some (u8l q.2) ∧ q.2.length % 64 = 0 ∧ 0 < q.2.length ∧ q.2.length ≤ 64 * 100) :
    ∃ v1 b18, appA Try.prog n0 bx 35 .ns (wc x) = some (v1, fun x => x, b18) ∧ (∀ i, i < bx.length → b18[i]? = bx[i]?) ∧ (∀ j k, j < bx.length → apartV (apAd b18 v1) (.bp j k) = true) ∧ (∀ v, freeA v1 v = true) ∧
      appA Try.prog n0 b18 35 v1 (.sl 1 (u8l b) false) = some (gv (bx.length, wq x ++ b), fun x => x, bx ++ [u8l (wq x ++ b)]) := by
  have rdb : ∀ bx : Bx, readA bx (.sl 1 (u8l b) false) = some (1, u8l b) := fun _ => rfl
  cases x with
  | none =>
    refine ⟨.ns, bx, ?_, fun _ _ => rfl, fun j k hj => by simp [apartV, apAd]; omega, fun _ => rfl, ?_⟩
    · unfold appA
      have rd0 : readA bx (wc none) = some (0, []) := rfl
      simp only [el_bl.1, if_true, el_bl.2.1, el_bl.2.2, by_bl, zc_bl, Option.bind_some, rd0]
      rw [if_pos ⟨rfl, by omega, by simp [u8l_len], by omega, by omega, by omega⟩]
    · unfold appA
      simp only [el_bl.1, if_true, el_bl.2.1, el_bl.2.2, by_bl, zc_bl, Option.bind_some, rdb]
      rw [if_pos ⟨by rw [u8l_len, hb], by omega, by simp [u8l_len], by omega, by omega, by omega⟩]
      rw [if_neg (by omega), if_pos ⟨trivial, Pr0.isV_u8l b⟩]
      simp [gv, hb, wq]
  | some q =>
    obtain ⟨q1, q2, q3, q4⟩ := hx q rfl
    refine ⟨.gs bx.length (q.2.length / 64) 64, bx ++ [u8l q.2], ?_, fun i hi => List.getElem?_append_left hi, fun j k hj => by simp [apartV, apAd]; omega, fun _ => rfl, ?_⟩
    · unfold appA
      have rd0 : readA bx (wc (some q)) = some (q.2.length / 64, u8l q.2) := by
        show (bx[q.1]?).map _ = _
        rw [q1, Option.map_some, List.take_of_length_le (by rw [u8l_len]; omega)]
      simp only [el_bl.1, if_true, el_bl.2.1, el_bl.2.2, by_bl, zc_bl, Option.bind_some, rd0]
      rw [if_pos ⟨by rw [u8l_len]; omega, by omega, by simp [u8l_len], by omega, by omega, by omega⟩]
      rw [if_neg (by omega), if_pos ⟨trivial, Pr0.isV_u8l q.2⟩]
    · unfold appA
      simp only [el_bl.1, if_true, el_bl.2.1, el_bl.2.2, by_bl, zc_bl, Option.bind_some, rdb]
      rw [if_pos ⟨by rw [u8l_len, hb], by omega, by simp [u8l_len], by omega, by omega, by omega⟩]
      have hg : (bx ++ [u8l q.2])[bx.length]? = some (u8l q.2) := by simp
      simp only [hg, Option.bind_some]
      rw [if_pos ⟨by rw [u8l_len]; omega, trivial, by omega, Pr0.isV_u8l b⟩, u8l_app]
      have hd : (q.2.length + 64) / 64 = q.2.length / 64 + 1 := by omega
      simp [gv, hb, hd, wq]
theorem lit0 : litA Try.prog 35 0 [] = some .ns := by kernel_rfl
theorem lit1 {b : List UInt8} (hb : b.length = 64) : litA Try.prog 35 1 [(0, .agg (u8l b))] = some (.sl 1 (u8l b) false) := by
  unfold litA
  rw [Pr0.mk_b1 [] hb]
  simp only [Option.bind_some, List.nil_append]
  rw [if_pos (Pr0.isV_u8l b), if_neg (by omega)]
theorem st_y (B : RB R bx ry rs rw_ rq n l u g z c wt) (z' : Int) : stA Try.prog 3 bx (.bp ry 3) (.v (.int .i64 z')) = some (.v undef, bx.set ry [.bp rq 0, .bsl rs 0 n 64, .bsl rw_ 0 n 1, .v (.int .i64 z')]) := st_1 s1i.1 B.hy (by simp) rfl rfl
theorem st_w (B : RB R bx ry rs rw_ rq n l u g z c wt) {i : Nat} (hi : i < n) (x : Option Sq) : stA Try.prog 35 bx (.bp rw_ i) (wc x) = some (.v undef, bx.set rw_ ((wt.set i x).map wc)) := by
  have hk : (wc x).okc = true ∧ (wc x).cells = [wc x] := by cases x <;> exact ⟨rfl, rfl⟩
  rw [st_1 t36.2.1 B.hw (by rw [List.length_map, B.hl]; exact hi) hk.1 hk.2, List.map_set]
/-- what the document's Write does ahead of its command -/
theorem rwrite_out (k : Nat) (B : RB R bx ry rs rw_ rq n l u g z c wt) {i : Int} (hi : ¬ (0 ≤ i ∧ i < (n : Int))) (b : List UInt8) : evFn cx0 ext0 (k + 2) 38 [.bp ry 0, .v (.int .i64 i), .agg (u8l b)] bx = some (.v (.int .i64 2), bx ++ [u8l b]) := by
  have hbx := box_agg bx (u8l b)
  have hm := (B.app [u8l b]).isc k (md := md_r04_Disk_Write) rfl i
  rw [decide_eq_false hi] at hm
  rw [E_r04_Disk_Write]
  refine ends_fin (P := Try.prog) ?_
  unfold F_r04_Disk_Write
  have stq := (And.intro (hbx) (hm))
  repeat first
    | ((with_reducible apply ends_bind); case h => first | (simp only [stp, stq]; first | done | rfl) | rfl)
    | ((with_reducible apply ends_t); case h => first | rfl | (simp only [stp, stq]; done))
    | ((with_reducible apply ends_f); case h => first | rfl | (simp only [stp, stq]; done))
  exact ends_some ⟨.inl rfl, _, rfl, rfl⟩
theorem rwrite_err (k : Nat) (B : RB R bx ry rs rw_ rq n l u g z c wt) {i : Int} (hi : 0 ≤ i ∧ i < (n : Int)) (b : List UInt8) (he : (useE l u g).1 ≠ 0) : evFn cx0 ext0 (k + 2) 38 [.bp ry 0, .v (.int .i64 i), .agg (u8l b)] bx = some (.v (.int .i64 (useE l u g).1), (bx ++ [u8l b]).set rq (useS l u g)) := by
  have hbx := box_agg bx (u8l b)
  have B1 := B.app [u8l b]
  have hm := B1.isc k (md := md_r04_Disk_Write) rfl i
  rw [decide_eq_true hi] at hm
  have nl := nl ry
  have fa := fa57 ry
  have ld := B1.ld
  have us : callA (evFn cx0 ext0 (k + 1)) md_r04_Disk_Write (bx ++ [u8l b]) 41 [.bp rq 0] = some (.v (.int .i64 (useE l u g).1), (bx ++ [u8l b]).set rq (useS l u g)) := by rw [Pr0.call_k rfl]; exact ruse k B1.hp
  have g1 : ((useE l u g).1 != 0) = true := by simpa using he
  generalize (bx ++ [u8l b]).set rq (useS l u g) = b1 at *
  rw [E_r04_Disk_Write]
  refine ends_fin (P := Try.prog) ?_
  unfold F_r04_Disk_Write
  have stq := (And.intro (hbx) (And.intro (hm) (And.intro (nl) (And.intro (fa) (And.intro (ld) (And.intro (us) (g1)))))))
  repeat first
    | ((with_reducible apply ends_bind); case h => first | (simp only [stp, stq]; first | done | rfl) | rfl)
    | ((with_reducible apply ends_t); case h => first | rfl | (simp only [stp, stq]; done))
    | ((with_reducible apply ends_f); case h => first | rfl | (simp only [stp, stq]; done))
  exact ends_some ⟨.inl rfl, _, rfl, rfl⟩
theorem rwrite_ok (k : Nat) (B : RB R bx ry rs rw_ rq n l u g z c wt) {i : Nat} (hi : i < n) {b : List UInt8} (hb : b.length = 64) (he : (useE l u g).1 = 0) (hbig : (wtl wt i).length + 64 ≤ 64 * 100) :
    ∃ (bx' : Bx) (R' : Nat → Prop) (wt' : Wl), evFn cx0 ext0 (k + 2) 38 [.bp ry 0, .v (.int .i64 i), .agg (u8l b)] bx = some (.v (.int .i64 0), bx') ∧
      RB R' bx' ry rs rw_ rq n (useE l u g).2.1 (useE l u g).2.2.1 (useE l u g).2.2.2 (IntKind.i64.wrap (z + 1)) c wt' ∧ (∀ j, wtl wt' j = if j = i then wtl wt i ++ b else wtl wt j) ∧ Stp R R' bx bx' := by
  have hbx := box_agg bx (u8l b)
  have B1 := B.app [u8l b]
  have hm := B1.isc k (md := md_r04_Disk_Write) rfl i
  rw [decide_eq_true ⟨by omega, by omega⟩] at hm
  have nl := nl ry
  have fa := fa57 ry
  have ld := B1.ld
  have us : callA (evFn cx0 ext0 (k + 1)) md_r04_Disk_Write (bx ++ [u8l b]) 41 [.bp rq 0] = some (.v (.int .i64 (useE l u g).1), (bx ++ [u8l b]).set rq (useS l u g)) := by rw [Pr0.call_k rfl]; exact ruse k B1.hp
  rw [he] at us
  have g1 : ((0 : Int) != 0) = false := rfl
  have B2 := B1.sup (useE l u g).2.1 (useE l u g).2.2.1 (useE l u g).2.2.2
  have hT : ((bx ++ [u8l b]).set rq (useS l u g))[bx.length]? = some (u8l b) := by
    rw [List.getElem?_set_ne (by have := B.hR _ B.od.2.2.2; omega)]
    simp
  obtain ⟨b1, hb1⟩ : ∃ x, x = (bx ++ [u8l b]).set rq (useS l u g) := ⟨_, rfl⟩
  have hS1 : Stp R R bx b1 := by
    refine ⟨by rw [hb1]; simp, fun j hj ht => ?_, fun j h => .inl h, fun gd => by rw [hb1]; exact (gd.app (Pr0.Good.b1 b)).set (eqCs_sup _ _ _) _⟩
    rw [hb1, List.getElem?_set_ne (fun e => by subst e; exact ht B.od.2.2.2), List.getElem?_append_left hj]
  have hTl : bx.length < b1.length := by rw [hb1]; simp
  rw [← hb1] at us B2 hT
  have ld2 := B2.ld
  obtain ⟨x, hx, hw⟩ := B2.at hi
  have lw := B2.ldw hx
  have ixw := ix_w rw_ n i hi
  obtain ⟨v1, b18, a1, hk18, hap, hfr, a2⟩ := ap_two (bx := b1) (n0 := bx.length) hb x (fun q e => by subst e; obtain ⟨q1, q2, q3, q4, _⟩ := B2.hq q (List.mem_of_getElem? hx); exact ⟨q1, q2, q3, q4⟩)
  rw [← hw] at a2
  have hl0 := lit0
  have hl1 := lit1 hb
  have p1 : apartV (apAd b1 .ns) (.bp ry 2) = true := by have := B2.hR _ B2.od.1; simp [apartV, apAd]; omega
  have p2 : apartV (apAd b1 .ns) (.bp bx.length 0) = true := by simp [apartV, apAd]; omega
  have f0 : ∀ v, freeA .ns v = true := fun _ => rfl
  have p3 : apartV (apAd b18 v1) (.bp ry 2) = true := hap ry 2 (B2.hR _ B2.od.1)
  have lb : loadA Try.prog 32 b18 (.bp bx.length 0) = some (.agg (u8l b)) := ld_a hB (by rw [hk18 _ hTl]; exact hT) hb
  -- the new list
  have B3 : RB (fun j => R j ∨ j = b1.length) (b1 ++ [u8l (wtl wt i ++ b)]) ry rs rw_ rq n (useE l u g).2.1 (useE l u g).2.2.1 (useE l u g).2.2.2 z c wt := by
    have h := B2.app [u8l (wtl wt i ++ b)]
    exact ⟨h.hy, h.hs, h.hc, h.hw, h.hl, fun q hq => by obtain ⟨h1, h2, h3, h4, h5, h6⟩ := h.hq q hq; exact ⟨h1, h2, h3, h4, .inl h5, h6⟩, h.hp, h.ne, ⟨.inl h.od.1, .inl h.od.2.1, .inl h.od.2.2.1, .inl h.od.2.2.2⟩, fun j hj => by rcases hj with hj | hj; exact h.hR j hj; subst hj; simp⟩
  have hnb : ∀ j, R j → b1.length ≠ j := fun j hj e => by have := B2.hR j hj; omega
  have B4 := B3.lst i (some (b1.length, wtl wt i ++ b)) fun q e => by
    simp only [Option.some.injEq] at e
    subst e
    have he2 : (wtl wt i).length % 64 = 0 := by
      rw [hw]
      cases x with
      | none => rfl
      | some q => exact (B2.hq q (List.mem_of_getElem? hx)).2.1
    exact ⟨by simp, by simp only [List.length_append]; omega, by simp only [List.length_append]; omega, by simp only [List.length_append]; omega, .inr rfl, hnb _ B.od.1, hnb _ B.od.2.1, hnb _ B.od.2.2.1, hnb _ B.od.2.2.2⟩
  have stw := st_w B3 hi (some (b1.length, wtl wt i ++ b))
  have hwc : wc (some (b1.length, wtl wt i ++ b)) = gv (b1.length, wtl wt i ++ b) := rfl
  rw [hwc] at stw
  obtain ⟨b4, hb4⟩ : ∃ x, x = (b1 ++ [u8l (wtl wt i ++ b)]).set rw_ ((wt.set i (some (b1.length, wtl wt i ++ b))).map wc) := ⟨_, rfl⟩
  rw [← hb4] at stw B4
  have ldz := B4.ld.2.2.2
  have sty := st_y B4 (IntKind.i64.wrap (z + 1))
  have B5 := B4.cnt (IntKind.i64.wrap (z + 1))
  obtain ⟨b5, hb5⟩ : ∃ x, x = b4.set ry [.bp rq 0, .bsl rs 0 n 64, .bsl rw_ 0 n 1, .v (.int .i64 (IntKind.i64.wrap (z + 1)))] := ⟨_, rfl⟩
  rw [← hb5] at sty B5
  refine ⟨b5, _, _, ?_, B5, fun j => ?_, ?_⟩
  · generalize gv (b1.length, wtl wt i ++ b) = X at *
    rw [E_r04_Disk_Write]
    refine ends_fin (P := Try.prog) ?_
    unfold F_r04_Disk_Write
    have stq := (And.intro (hbx) (And.intro (hm) (And.intro (nl) (And.intro (fa) (And.intro (ld) (And.intro (us) (And.intro (g1) (And.intro (ld2) (And.intro (hl0) (And.intro (ixw) (And.intro (lw) (And.intro (p1) (And.intro (a1) (And.intro (f0) (And.intro (p2) (And.intro (lb) (And.intro (hl1) (And.intro (p3) (And.intro (a2) (And.intro (hfr) (And.intro (stw) (And.intro (ldz) (sty)))))))))))))))))))))))
    repeat first
      | ((with_reducible apply ends_bind); case h => first | (simp only [stp, stq]; first | done | rfl) | rfl)
      | ((with_reducible apply ends_t); case h => first | rfl | (simp only [stp, stq]; done))
      | ((with_reducible apply ends_f); case h => first | rfl | (simp only [stp, stq]; done))
    exact ends_some ⟨.inl rfl, _, rfl, rfl⟩
  · rw [wtl_set wt i (by rw [B.hl]; exact hi)]
    rfl
  · refine hS1.trans ⟨by rw [hb5, hb4]; simp, fun j hj ht => ?_, fun j hj => hj.imp id fun e => by omega, fun gd => ?_⟩ fun _ h => h
    · rw [hb5, List.getElem?_set_ne (fun e => by subst e; exact ht B.od.1), hb4, List.getElem?_set_ne (fun e => by subst e; exact ht B.od.2.2.1), List.getElem?_append_left hj]
    · rw [hb5, hb4]
      exact ((gd.app (Pr0.Good.b1 _)).set (eqCs_wt _) _).set (eqCs_ry _ _ _ _ _) _
end
end Go.Sy

namespace Go.Sy
open Go.Proofs

section
variable {R : Nat → Prop} {bx : Bx} {ry rs rw_ rq n : Nat} {l u : Int} {g : Bool} {z : Int} {c : List UInt8} {wt : Wl}
theorem rforce_out (k : Nat) (B : RB R bx ry rs rw_ rq n l u g z c wt) {i : Int} (hi : ¬ (0 ≤ i ∧ i < (n : Int))) (b : List UInt8) : evFn cx0 ext0 (k + 2) 29 [.bp ry 0, .v (.int .i64 i), .agg (u8l b)] bx = some (.v (.int .i64 2), bx ++ [u8l b]) := by
  have hbx := box_agg bx (u8l b)
  have hm := (B.app [u8l b]).isc k (md := md_r04_Disk_Force) rfl i
  rw [decide_eq_false hi] at hm
  rw [E_r04_Disk_Force]
  refine ends_fin (P := Try.prog) ?_
  unfold F_r04_Disk_Force
  have stq := (And.intro (hbx) (hm))
  repeat first
    | ((with_reducible apply ends_bind); case h => first | (simp only [stp, stq]; first | done | rfl) | rfl)
    | ((with_reducible apply ends_t); case h => first | rfl | (simp only [stp, stq]; done))
    | ((with_reducible apply ends_f); case h => first | rfl | (simp only [stp, stq]; done))
  exact ends_some ⟨.inl rfl, _, rfl, rfl⟩
theorem rforce_err (k : Nat) (B : RB R bx ry rs rw_ rq n l u g z c wt) {i : Int} (hi : 0 ≤ i ∧ i < (n : Int)) (b : List UInt8) (he : (useE l u g).1 ≠ 0) : evFn cx0 ext0 (k + 2) 29 [.bp ry 0, .v (.int .i64 i), .agg (u8l b)] bx = some (.v (.int .i64 (useE l u g).1), (bx ++ [u8l b]).set rq (useS l u g)) := by
  have hbx := box_agg bx (u8l b)
  have B1 := B.app [u8l b]
  have hm := B1.isc k (md := md_r04_Disk_Force) rfl i
  rw [decide_eq_true hi] at hm
  have nl := nl ry
  have fa := fa57 ry
  have ld := B1.ld
  have us : callA (evFn cx0 ext0 (k + 1)) md_r04_Disk_Force (bx ++ [u8l b]) 41 [.bp rq 0] = some (.v (.int .i64 (useE l u g).1), (bx ++ [u8l b]).set rq (useS l u g)) := by rw [Pr0.call_k rfl]; exact ruse k B1.hp
  have g1 : ((useE l u g).1 != 0) = true := by simpa using he
  generalize (bx ++ [u8l b]).set rq (useS l u g) = b1 at *
  rw [E_r04_Disk_Force]
  refine ends_fin (P := Try.prog) ?_
  unfold F_r04_Disk_Force
  have stq := (And.intro (hbx) (And.intro (hm) (And.intro (nl) (And.intro (fa) (And.intro (ld) (And.intro (us) (g1)))))))
  repeat first
    | ((with_reducible apply ends_bind); case h => first | (simp only [stp, stq]; first | done | rfl) | rfl)
    | ((with_reducible apply ends_t); case h => first | rfl | (simp only [stp, stq]; done))
    | ((with_reducible apply ends_f); case h => first | rfl | (simp only [stp, stq]; done))
  exact ends_some ⟨.inl rfl, _, rfl, rfl⟩
theorem Stp.used (B : RB R bx ry rs rw_ rq n l u g z c wt) (l' u' : Int) (g' : Bool) : Stp R R bx (bx.set rq (Go.Sy.sup l' u' g')) :=
  ⟨by simp, fun j _ ht => List.getElem?_set_ne (fun e => by subst e; exact ht B.od.2.2.2), fun j h => .inl h, fun gd => gd.set (eqCs_sup _ _ _) _⟩
theorem Stp.app {T : Nat → Prop} (bx : Bx) {t : Bx} (ht : Pr0.Good t) : Stp T T bx (bx ++ t) := ⟨by simp, fun j hj _ => List.getElem?_append_left hj, fun j h => .inl h, fun gd => gd.app ht⟩
theorem Stp.refl {T : Nat → Prop} (bx : Bx) : Stp T T bx bx := ⟨Nat.le_refl _, fun _ _ _ => rfl, fun _ h => .inl h, id⟩
theorem rforce_ok (k : Nat) (B : RB R bx ry rs rw_ rq n l u g z c wt) {i : Nat} (hi : i < n) {b : List UInt8} (hb : b.length = 64) (he : (useE l u g).1 = 0) :
    ∃ (bx' : Bx), evFn cx0 ext0 (k + 2) 29 [.bp ry 0, .v (.int .i64 i), .agg (u8l b)] bx = some (.v (.int .i64 0), bx') ∧
      RB R bx' ry rs rw_ rq n (useE l u g).2.1 (useE l u g).2.2.1 (useE l u g).2.2.2 (IntKind.i64.wrap (z + 1)) (spl c i b) (wt.set i none) ∧ Stp R R bx bx' := by
  have hbx := box_agg bx (u8l b)
  have B1 := B.app [u8l b]
  have hm := B1.isc k (md := md_r04_Disk_Force) rfl i
  rw [decide_eq_true ⟨by omega, by omega⟩] at hm
  have nl := nl ry
  have fa := fa57 ry
  have ld := B1.ld
  have us : callA (evFn cx0 ext0 (k + 1)) md_r04_Disk_Force (bx ++ [u8l b]) 41 [.bp rq 0] = some (.v (.int .i64 (useE l u g).1), (bx ++ [u8l b]).set rq (useS l u g)) := by rw [Pr0.call_k rfl]; exact ruse k B1.hp
  rw [he] at us
  have g1 : ((0 : Int) != 0) = false := rfl
  have B2 := B1.sup (useE l u g).2.1 (useE l u g).2.2.1 (useE l u g).2.2.2
  have hT : ((bx ++ [u8l b]).set rq (useS l u g))[bx.length]? = some (u8l b) := by
    rw [List.getElem?_set_ne (by have := B.hR _ B.od.2.2.2; omega)]
    simp
  have hS1 := (Stp.app (T := R) bx (Pr0.Good.b1 b)).trans (Stp.used B1 (useE l u g).2.1 (useE l u g).2.2.1 (useE l u g).2.2.2) fun _ h => h
  obtain ⟨b1, hb1⟩ : ∃ x, x = (bx ++ [u8l b]).set rq (useS l u g) := ⟨_, rfl⟩
  have hTR : ¬ R bx.length := fun h => by have := B.hR _ h; omega
  rw [← hb1] at us B2 hT hS1
  have ld2 := B2.ld
  have lb : loadA Try.prog 32 b1 (.bp bx.length 0) = some (.agg (u8l b)) := ld_a hB hT hb
  have ixs := ix_bb rs n i .i64 hi
  have sts := st_bb B2.hs B2.hc hi hb
  have ixw := ix_w rw_ n i hi
  have B3 := B2.stb (spl_len B2.hc hi hb)
  obtain ⟨b3, hb3⟩ : ∃ x, x = b1.set rs (u8l (spl c i b)) := ⟨_, rfl⟩
  rw [← hb3] at sts B3
  have stw := st_w B3 hi none
  have B4 := B3.lst i none (fun q e => by cases e)
  obtain ⟨b4, hb4⟩ : ∃ x, x = b3.set rw_ ((wt.set i none).map wc) := ⟨_, rfl⟩
  rw [← hb4] at stw B4
  have ldz := B4.ld.2.2.2
  have sty := st_y B4 (IntKind.i64.wrap (z + 1))
  have B5 := B4.cnt (IntKind.i64.wrap (z + 1))
  obtain ⟨b5, hb5⟩ : ∃ x, x = b4.set ry [.bp rq 0, .bsl rs 0 n 64, .bsl rw_ 0 n 1, .v (.int .i64 (IntKind.i64.wrap (z + 1)))] := ⟨_, rfl⟩
  rw [← hb5] at sty B5
  have stw' : stA Try.prog 35 b3 (.bp rw_ i) (.v (.slice none 0 0)) = some (.v undef, b4) := stw
  refine ⟨b5, ?_, B5, ?_⟩
  · rw [E_r04_Disk_Force]
    refine ends_fin (P := Try.prog) ?_
    unfold F_r04_Disk_Force
    have stq := (And.intro (hbx) (And.intro (hm) (And.intro (nl) (And.intro (fa) (And.intro (ld) (And.intro (us) (And.intro (g1) (And.intro (ld2) (And.intro (lb) (And.intro (ixs) (And.intro (sts) (And.intro (ixw) (And.intro (stw') (And.intro (ldz) (sty)))))))))))))))
    repeat first
      | ((with_reducible apply ends_bind); case h => first | (simp only [stp, stq]; first | done | rfl) | rfl)
      | ((with_reducible apply ends_t); case h => first | rfl | (simp only [stp, stq]; done))
      | ((with_reducible apply ends_f); case h => first | rfl | (simp only [stp, stq]; done))
    exact ends_some ⟨.inl rfl, _, rfl, rfl⟩
  · refine hS1.trans ⟨by rw [hb5, hb4, hb3]; simp, fun j hj ht => ?_, fun j hj => .inl hj, fun gd => ?_⟩ fun _ h => h
    · rw [hb5, List.getElem?_set_ne (fun e => by subst e; exact ht B.od.1), hb4, List.getElem?_set_ne (fun e => by subst e; exact ht B.od.2.2.1), hb3, List.getElem?_set_ne (fun e => by subst e; exact ht B.od.2.1)]
    · rw [hb5, hb4, hb3]
      exact ((gd.set (eqCs_u8l _) _).set (eqCs_wt _) _).set (eqCs_ry _ _ _ _ _) _
theorem ln_ws (q n : Nat) : lenA Try.prog 55 (.bsl q 0 n 1) = some (.v (.int .i64 n)) := by kernel_rfl
theorem rflush_err (k : Nat) (B : RB R bx ry rs rw_ rq n l u g z c wt) (he : (useE l u g).1 ≠ 0) : evFn cx0 ext0 (k + 2) 30 [.bp ry 0] bx = some (.v (.int .i64 (useE l u g).1), bx.set rq (useS l u g)) := by
  have nl := nl ry
  have fa := fa57 ry
  have ld := B.ld
  have us : callA (evFn cx0 ext0 (k + 1)) md_r04_Disk_Flush bx 41 [.bp rq 0] = some (.v (.int .i64 (useE l u g).1), bx.set rq (useS l u g)) := by rw [Pr0.call_k rfl]; exact ruse k B.hp
  have g1 : ((useE l u g).1 != 0) = true := by simpa using he
  generalize bx.set rq (useS l u g) = b1 at *
  rw [E_r04_Disk_Flush]
  refine ends_fin (P := Try.prog) ?_
  unfold F_r04_Disk_Flush
  have stq := (And.intro (nl) (And.intro (fa) (And.intro (ld) (And.intro (us) (g1)))))
  repeat first
    | ((with_reducible apply ends_bind); case h => first | (simp only [stp, stq]; first | done | rfl) | rfl)
    | ((with_reducible apply ends_t); case h => first | rfl | (simp only [stp, stq]; done))
    | ((with_reducible apply ends_f); case h => first | rfl | (simp only [stp, stq]; done))
  exact ends_some ⟨.inl rfl, _, rfl, rfl⟩
theorem rflush_ok (k : Nat) (hn : n ≤ 2048) (hk : n + 2 ≤ k) (B : RB R bx ry rs rw_ rq n l u g z c wt) (hg : Pr0.Good bx) (he : (useE l u g).1 = 0) :
    ∃ (bx' : Bx) (c' : List UInt8) (wt' : Wl), evFn cx0 ext0 (k + 1) 30 [.bp ry 0] bx = some (.v (.int .i64 0), bx') ∧
      RB R bx' ry rs rw_ rq n (useE l u g).2.1 (useE l u g).2.2.1 (useE l u g).2.2.2 z c' wt' ∧ (∀ j, j < n → bk c' j = shr c wt j) ∧ (∀ j, wtl wt' j = []) ∧ Stp R R bx bx' := by
  obtain ⟨k, rfl⟩ : ∃ k', k = k' + 2 := ⟨k - 2, by omega⟩
  have nl := nl ry
  have fa := fa57 ry
  have ld := B.ld
  have us : callA (evFn cx0 ext0 (k + 2)) md_r04_Disk_Flush bx 41 [.bp rq 0] = some (.v (.int .i64 (useE l u g).1), bx.set rq (useS l u g)) := by rw [Pr0.call_k rfl]; exact ruse (k + 1) B.hp
  rw [he] at us
  have g1 : ((0 : Int) != 0) = false := rfl
  have B1 := B.sup (useE l u g).2.1 (useE l u g).2.2.1 (useE l u g).2.2.2
  have S1 := Stp.used B (useE l u g).2.1 (useE l u g).2.2.1 (useE l u g).2.2.2
  obtain ⟨b1, hb1⟩ : ∃ x, x = bx.set rq (useS l u g) := ⟨_, rfl⟩
  rw [← hb1] at us B1 S1
  generalize (useE l u g).2.1 = l1 at *
  generalize (useE l u g).2.2.1 = u1 at *
  generalize (useE l u g).2.2.2 = g1' at *
  have key : Ends (F_r04_Disk_Flush (evFn cx0 ext0 (k + 2)) (k + 2) bx.length (.bp ry 0) bx) fun e s => (e = .ret ∨ e = .normal) ∧ ∃ (bx' : Bx) (c' : List UInt8) (wt' : Wl), s.bx = bx' ∧ get s.env 2 = .v (.int .i64 0) ∧
      RB R bx' ry rs rw_ rq n l1 u1 g1' z c' wt' ∧ (∀ j, j < n → bk c' j = shr c wt j) ∧ (∀ j, wtl wt' j = []) ∧ Stp R R bx bx' := by
    unfold F_r04_Disk_Flush
    have stq := (And.intro (nl) (And.intro (fa) (And.intro (ld) (And.intro (us) (g1)))))
    repeat first
      | ((with_reducible apply ends_bind); case h => first | (simp only [stp, stq]; first | done | rfl) | rfl)
      | ((with_reducible apply ends_t); case h => first | rfl | (simp only [stp, stq]; done))
      | ((with_reducible apply ends_f); case h => first | rfl | (simp only [stp, stq]; done))
    refine ends_loop (n := k + 2) (fun r t => ∃ (i : Nat) (y : Bx) (c1 : List UInt8) (w1 : Wl) (x11 x3 x2 : AV), t = ⟨[(4, .v (.int .i64 i)), (11, x11), (3, x3), (2, x2), (0, .bp ry 0)], y⟩ ∧ i + r = n ∧ RB R y ry rs rw_ rq n l1 u1 g1' z c1 w1 ∧ Stp R R bx y ∧
        (∀ j, j < n → bk c1 j = if j < i then shr c wt j else bk c j) ∧ (∀ j, wtl w1 j = if j < i then [] else wtl wt j)) n (by omega) ⟨0, b1, c, wt, _, _, _, rfl, by omega, B1, S1, fun j _ => by simp, fun j => by simp⟩ ?_
    rintro r t ⟨i, y, c1, w1, x11, x3, x2, rfl, hir, By, Sy', hcs, hws⟩
    refine L_r04_Disk_Flush_0_lit ?_
    unfold B_r04_Disk_Flush_0
    have ldy := By.ld
    have ln1 := ln_bb rs n 64
    have ln2 := ln_ws rw_ n
    by_cases hi : i < n
    · have g2 : decide ((i : Int) < (n : Int)) = true := decide_eq_true (by omega)
      have hrd := rread k By (i : Nat)
      rw [if_pos ⟨by omega, by omega⟩, Int.toNat_natCast] at hrd
      have gy := Sy'.gd hg
      have cr : callA (evFn cx0 ext0 (k + 2)) md_r04_Disk_Flush y 24 [.bp ry 0, .v (.int .i64 i)] = some (.tup [.agg (u8l (shr c1 w1 i)), .v (.int .i64 0)], y) := by
        unfold callA
        rw [show md_r04_Disk_Flush 24 = .objR from rfl]
        simp only [hrd, Option.bind_some]
        rw [if_pos (by rw [List.take_left' rfl]; exact eqBx_refl gy)]
        simp only [AV.keep, AV.keepL, AV.keepL_eq, u8l_keep]
      have hshl := By.shl hi
      have ixs := ix_bb rs n i .i64 hi
      have sts := st_bb By.hs By.hc hi hshl
      have B3 := By.stb (spl_len By.hc hi hshl)
      obtain ⟨b3, hb3⟩ : ∃ x, x = y.set rs (u8l (spl c1 i (shr c1 w1 i))) := ⟨_, rfl⟩
      rw [← hb3] at sts B3
      have ld3 := B3.ld
      have ixw := ix_w rw_ n i hi
      have stw : stA Try.prog 35 b3 (.bp rw_ i) (.v (.slice none 0 0)) = some (.v undef, b3.set rw_ ((w1.set i none).map wc)) := st_w B3 hi none
      have B4 := B3.lst i none (fun q e => by cases e)
      obtain ⟨b4, hb4⟩ : ∃ x, x = b3.set rw_ ((w1.set i none).map wc) := ⟨_, rfl⟩
      rw [← hb4] at stw B4
      have e3 : IntKind.i64.wrap ((i : Int) + 1) = ((i + 1 : Nat) : Int) := by rw [wrap64]; omega
      have hS4 : Stp R R bx b4 := Sy'.trans ⟨by rw [hb4, hb3]; simp, fun j hj ht => by rw [hb4, List.getElem?_set_ne (fun e => by subst e; exact ht B.od.2.2.1), hb3, List.getElem?_set_ne (fun e => by subst e; exact ht B.od.2.1)], fun j hj => .inl hj, fun gd => by rw [hb4, hb3]; exact (gd.set (eqCs_u8l _) _).set (eqCs_wt _) _⟩ fun _ h => h
      have stq := (And.intro (nl) (And.intro (fa) (And.intro (ldy) (And.intro (ln1) (And.intro (g2) (And.intro (ln2) (And.intro (cr) (And.intro (ixs) (And.intro (sts) (And.intro (ld3) (And.intro (ixw) (And.intro (stw) (e3)))))))))))))
      repeat first
        | ((with_reducible apply ends_bind); case h => first | (simp only [stp, stq]; first | done | rfl) | rfl)
        | ((with_reducible apply ends_t); case h => first | rfl | (simp only [stp, stq]; done))
        | ((with_reducible apply ends_f); case h => first | rfl | (simp only [stp, stq]; done))
      refine ends_some (.inl ⟨rfl, r - 1, by omega, i + 1, b4, _, _, _, _, _, by first | rfl | (rw [← e3]; rfl), by omega, B4, hS4, fun j hj => ?_, fun j => ?_⟩)
      · by_cases e : j = i
        · subst e
          rw [spl_at By.hc hi hshl, if_pos (by omega)]
          have hw' : wtl w1 j = wtl wt j := by rw [hws j, if_neg (by omega)]
          have hc' : bk c1 j = bk c j := by rw [hcs j hj, if_neg (by omega)]
          unfold shr
          rw [hw', hc']
        · rw [spl_ne By.hc hi hj e hshl, hcs j hj]
          by_cases h1 : j < i
          · rw [if_pos h1, if_pos (by omega)]
          · rw [if_neg h1, if_neg (by omega)]
      · rw [wtl_set w1 i (by rw [By.hl]; exact hi)]
        by_cases e : j = i
        · rw [if_pos e, if_pos (by omega)]
          rfl
        · rw [if_neg e, hws j]
          by_cases h1 : j < i
          · rw [if_pos h1, if_pos (by omega)]
          · rw [if_neg h1, if_neg (by omega)]
    · have g2 : decide ((i : Int) < (n : Int)) = false := decide_eq_false (by omega)
      have stq := (And.intro (nl) (And.intro (fa) (And.intro (ldy) (And.intro (ln1) (g2)))))
      repeat first
        | ((with_reducible apply ends_bind); case h => first | (simp only [stp, stq]; first | done | rfl) | rfl)
        | ((with_reducible apply ends_t); case h => first | rfl | (simp only [stp, stq]; done))
        | ((with_reducible apply ends_f); case h => first | rfl | (simp only [stp, stq]; done))
      refine ends_some (.inr (.inl ⟨0, rfl, X_r04_Disk_Flush_0_0_lit ?_⟩))
      unfold X_r04_Disk_Flush_0_0
      refine ends_some ⟨.inl rfl, y, c1, w1, rfl, rfl, By, fun j hj => by rw [hcs j hj, if_pos (by omega)], fun j => ?_, Sy'⟩
      rw [hws j]
      by_cases h1 : j < i
      · rw [if_pos h1]
      · rw [if_neg h1]
        unfold wtl
        rw [List.getElem?_eq_none (by rw [B.hl]; omega)]
  obtain ⟨e, s, h1, h2, bx', c', wt', h3, h4, h5⟩ := key
  refine ⟨bx', c', wt', ?_, h5⟩
  rw [E_r04_Disk_Flush]
  refine ends_fin (P := Try.prog) ⟨e, s, h1, h2, [.v (.int .i64 0)], ?_, by rw [h3]; rfl⟩
  show some [get s.env 2] = _
  rw [h4]
end
end Go.Sy

namespace Go.Sy
open Go.Proofs

/-- what a sector has behind a crash -/
def crS (ks : List Int) (c : List UInt8) (w : List UInt8) (k : Nat) : List UInt8 := if 0 < Pre.keepN ks k (w.length / 64) then bk w (Pre.keepN ks k (w.length / 64) - 1) else bk c k
section
variable {R : Nat → Prop} {bx : Bx} {ry rs rw_ rq n : Nat} {l u : Int} {g : Bool} {z : Int} {c : List UInt8} {wt : Wl}
theorem rcrash (k : Nat) (hn : n ≤ 2048) (hk : n + 2 ≤ k) (B : RB R bx ry rs rw_ rq n l u g z c wt) {keep : AV} {ks : List Int} (hI : ∀ y : Bx, Pre.Ints y keep ks) :
    ∃ (bx' : Bx) (c' : List UInt8) (wt' : Wl), evFn cx0 ext0 (k + 1) 32 [.bp ry 0, keep] bx = some (.tup [], bx') ∧
      RB R bx' ry rs rw_ rq n l u g z c' wt' ∧ (∀ j, j < n → bk c' j = crS ks c (wtl wt j) j) ∧ (∀ j, wtl wt' j = []) ∧ Stp R R bx bx' := by
  have nl := nl ry
  have fa := fa57 ry
  have hln := (hI bx).ln
  have key : Ends (F_r04_Disk_Crash (evFn cx0 ext0 k) k bx.length (.bp ry 0) keep bx) fun e s => (e = .ret ∨ e = .normal) ∧ ∃ (bx' : Bx) (c' : List UInt8) (wt' : Wl), s.bx = bx' ∧
      RB R bx' ry rs rw_ rq n l u g z c' wt' ∧ (∀ j, j < n → bk c' j = crS ks c (wtl wt j) j) ∧ (∀ j, wtl wt' j = []) ∧ Stp R R bx bx' := by
    unfold F_r04_Disk_Crash
    refine ends_loop (n := k) (fun r t => ∃ (i : Nat) (y : Bx) (c1 : List UInt8) (w1 : Wl), t = ⟨[(4, .v (.int .i64 i)), (0, .bp ry 0), (1, keep)], y⟩ ∧ i + r = n ∧ RB R y ry rs rw_ rq n l u g z c1 w1 ∧ Stp R R bx y ∧
        (∀ j, j < n → bk c1 j = if j < i then crS ks c (wtl wt j) j else bk c j) ∧ (∀ j, wtl w1 j = if j < i then [] else wtl wt j)) n (by omega) ⟨0, bx, c, wt, rfl, by omega, B, .refl bx, fun j _ => by simp, fun j => by simp⟩ ?_
    rintro r t ⟨i, y, c1, w1, rfl, hir, By, Sy', hcs, hws⟩
    refine L_r04_Disk_Crash_0_lit ?_
    unfold B_r04_Disk_Crash_0
    have ldy := By.ld
    have ln1 := ln_bb rs n 64
    have ln2 := ln_ws rw_ n
    by_cases hi : i < n
    · have g2 : decide ((i : Int) < (n : Int)) = true := decide_eq_true (by omega)
      have e3 : IntKind.i64.wrap ((i : Int) + 1) = ((i + 1 : Nat) : Int) := by rw [wrap64]; omega
      have ixw := ix_w rw_ n i hi
      obtain ⟨x, hx, hw⟩ := By.at hi
      have lw := By.ldw hx
      have lnw := ln_w x
      rw [← hw] at lnw
      have hwi : wtl w1 i = wtl wt i := by rw [hws i, if_neg (by omega)]
      have hci : bk c1 i = bk c i := by rw [hcs i hi, if_neg (by omega)]
      -- behind a round
      have fin : ∀ (b3 : Bx) (c3 : List UInt8), RB R b3 ry rs rw_ rq n l u g z c3 w1 → (b3 = y ∧ c3 = c1 ∨ ∃ b, b.length = 64 ∧ b3 = y.set rs (u8l (spl c1 i b)) ∧ c3 = spl c1 i b) → bk c3 i = crS ks c (wtl wt i) i →
          RB R (b3.set rw_ ((w1.set i none).map wc)) ry rs rw_ rq n l u g z c3 (w1.set i none) ∧ Stp R R bx (b3.set rw_ ((w1.set i none).map wc)) ∧ (∀ j, j < n → bk c3 j = if j < i + 1 then crS ks c (wtl wt j) j else bk c j) ∧ (∀ j, wtl (w1.set i none) j = if j < i + 1 then [] else wtl wt j) := by
        intro b3 c3 B3 hb3 hbk
        refine ⟨B3.lst i none (fun q e => by cases e), ?_, fun j hj => ?_, fun j => ?_⟩
        · refine Sy'.trans ⟨?_, fun j hj ht => ?_, fun j hj => .inl hj, fun gd => ?_⟩ fun _ h => h
          · rcases hb3 with ⟨h, _⟩ | ⟨b, _, h, _⟩ <;> rw [h] <;> simp
          · rw [List.getElem?_set_ne (fun e => by subst e; exact ht B.od.2.2.1)]
            rcases hb3 with ⟨h, _⟩ | ⟨b, _, h, _⟩
            · rw [h]
            · rw [h, List.getElem?_set_ne (fun e => by subst e; exact ht B.od.2.1)]
          · rcases hb3 with ⟨h, _⟩ | ⟨b, _, h, _⟩
            · rw [h]; exact gd.set (eqCs_wt _) _
            · rw [h]; exact (gd.set (eqCs_u8l _) _).set (eqCs_wt _) _
        · by_cases e : j = i
          · subst e
            rw [if_pos (by omega)]
            exact hbk
          · have : bk c3 j = bk c1 j := by
              rcases hb3 with ⟨_, h⟩ | ⟨b, hb, _, h⟩
              · rw [h]
              · rw [h, spl_ne By.hc hi hj e hb]
            rw [this, hcs j hj]
            by_cases h1 : j < i
            · rw [if_pos h1, if_pos (by omega)]
            · rw [if_neg h1, if_neg (by omega)]
        · rw [wtl_set w1 i (by rw [By.hl]; exact hi)]
          by_cases e : j = i
          · rw [if_pos e, if_pos (by omega)]
            rfl
          · rw [if_neg e, hws j]
            by_cases h1 : j < i
            · rw [if_pos h1, if_pos (by omega)]
            · rw [if_neg h1, if_neg (by omega)]
      have hcr : crS ks c (wtl wt i) i = if 0 < Pre.keepN ks i ((wtl w1 i).length / 64) then bk (wtl w1 i) (Pre.keepN ks i ((wtl w1 i).length / 64) - 1) else bk c1 i := by
        unfold crS
        rw [hwi, hci]
      by_cases h1 : i < ks.length
      · have k1 : decide ((i : Int) < (ks.length : Int)) = true := decide_eq_true (by omega)
        obtain ⟨a, ha, hl⟩ := (hI y).ix i h1
        have hkk : ks.getD i 0 = ks[i] := by simp [h1]
        have mx := max_v .i64 .i64 ks[i] 0
        have mn : minL false (.v (.int .i64 (max ks[i] 0))) [.v (.int .i64 ((wtl w1 i).length / 64 : Nat))] = some (.v (.int .i64 (Pre.keepN ks i ((wtl w1 i).length / 64) : Nat))) := by
          rw [min_v]
          unfold Pre.keepN
          rw [if_pos h1, hkk]
          congr 3
          omega
        have hle := Pre.keepN_le ks i ((wtl w1 i).length / 64)
        generalize hj : Pre.keepN ks i ((wtl w1 i).length / 64) = j at *
        by_cases h2 : 0 < j
        · have k2 : decide ((0 : Int) < (j : Int)) = true := decide_eq_true (by omega)
          rw [if_pos h2] at hcr
          obtain ⟨q, rfl⟩ : ∃ q, x = some q := by
            cases x with
            | none =>
              have h0 : wtl w1 i = [] := hw
              rw [h0] at hle
              simp at hle
              omega
            | some q => exact ⟨q, rfl⟩
          have hw' : wtl w1 i = q.2 := hw
          rw [hw'] at hle hcr
          obtain ⟨q1, q2, q3, q4, _⟩ := By.hq q (List.mem_of_getElem? hx)
          have hwc : wc (some q) = .gs q.1 (q.2.length / 64) 64 := rfl
          have ew : IntKind.i64.wrap ((j : Int) - 1) = ((j - 1 : Nat) : Int) := by rw [wrap64]; omega
          have ixb := ix_gs q.1 (q.2.length / 64) (j - 1) .i64 (by omega)
          have ldb := ld_gs (j := j - 1) (k := q.2.length / 64) q1 (by omega) (by omega)
          have hbl : (bk q.2 (j - 1)).length = 64 := bk_len (n := q.2.length / 64) (by omega) (by omega)
          have ixs := ix_bb rs n i .i64 hi
          have sts := st_bb By.hs By.hc hi hbl
          have B3 := By.stb (spl_len By.hc hi hbl)
          obtain ⟨f1, f2, f3, f4⟩ := fin _ _ B3 (.inr ⟨_, hbl, rfl, rfl⟩) (by rw [spl_at By.hc hi hbl, hcr])
          obtain ⟨b3, hb3⟩ : ∃ x, x = y.set rs (u8l (spl c1 i (bk q.2 (j - 1)))) := ⟨_, rfl⟩
          rw [← hb3] at sts B3 f1 f2
          have ld3 := B3.ld
          have stw : stA Try.prog 35 b3 (.bp rw_ i) (.v (.slice none 0 0)) = some (.v undef, b3.set rw_ ((w1.set i none).map wc)) := st_w B3 hi none
          rw [hwc] at lw lnw
          have stq := (And.intro (nl) (And.intro (fa) (And.intro (ldy) (And.intro (ln1) (And.intro (g2) (And.intro (ln2) (And.intro (hln) (And.intro (k1) (And.intro (ha) (And.intro (hl) (And.intro (mx) (And.intro (ixw) (And.intro (lw) (And.intro (lnw) (And.intro (mn) (And.intro (k2) (And.intro (ew) (And.intro (ixb) (And.intro (ldb) (And.intro (ixs) (And.intro (sts) (And.intro (ld3) (And.intro (stw) (e3))))))))))))))))))))))))
          repeat first
            | ((with_reducible apply ends_bind); case h => first | (simp only [stp, stq]; first | done | rfl) | rfl)
            | ((with_reducible apply ends_t); case h => first | rfl | (simp only [stp, stq]; done))
            | ((with_reducible apply ends_f); case h => first | rfl | (simp only [stp, stq]; done))
          exact ends_some (.inl ⟨rfl, r - 1, by omega, i + 1, _, _, _, by first | rfl | (rw [← e3]; rfl), by omega, f1, f2, f3, f4⟩)
        · have k2 : decide ((0 : Int) < (j : Int)) = false := decide_eq_false (by omega)
          rw [if_neg h2] at hcr
          obtain ⟨f1, f2, f3, f4⟩ := fin y c1 By (.inl ⟨rfl, rfl⟩) hcr.symm
          have stw : stA Try.prog 35 y (.bp rw_ i) (.v (.slice none 0 0)) = some (.v undef, y.set rw_ ((w1.set i none).map wc)) := st_w By hi none
          have stq := (And.intro (nl) (And.intro (fa) (And.intro (ldy) (And.intro (ln1) (And.intro (g2) (And.intro (ln2) (And.intro (hln) (And.intro (k1) (And.intro (ha) (And.intro (hl) (And.intro (mx) (And.intro (ixw) (And.intro (lw) (And.intro (lnw) (And.intro (mn) (And.intro (k2) (And.intro (stw) (e3))))))))))))))))))
          repeat first
            | ((with_reducible apply ends_bind); case h => first | (simp only [stp, stq]; first | done | rfl) | rfl)
            | ((with_reducible apply ends_t); case h => first | rfl | (simp only [stp, stq]; done))
            | ((with_reducible apply ends_f); case h => first | rfl | (simp only [stp, stq]; done))
          exact ends_some (.inl ⟨rfl, r - 1, by omega, i + 1, _, _, _, by first | rfl | (rw [← e3]; rfl), by omega, f1, f2, f3, f4⟩)
      · have k1 : decide ((i : Int) < (ks.length : Int)) = false := decide_eq_false (by omega)
        have hj : Pre.keepN ks i ((wtl w1 i).length / 64) = 0 := by unfold Pre.keepN; rw [if_neg h1]
        rw [hj, if_neg (by omega)] at hcr
        have k2 : decide ((0 : Int) < 0) = false := rfl
        obtain ⟨f1, f2, f3, f4⟩ := fin y c1 By (.inl ⟨rfl, rfl⟩) hcr.symm
        have stw : stA Try.prog 35 y (.bp rw_ i) (.v (.slice none 0 0)) = some (.v undef, y.set rw_ ((w1.set i none).map wc)) := st_w By hi none
        have stq := (And.intro (nl) (And.intro (fa) (And.intro (ldy) (And.intro (ln1) (And.intro (g2) (And.intro (ln2) (And.intro (hln) (And.intro (k1) (And.intro (ixw) (And.intro (k2) (And.intro (stw) (e3))))))))))))
        repeat first
          | ((with_reducible apply ends_bind); case h => first | (simp only [stp, stq]; first | done | rfl) | rfl)
          | ((with_reducible apply ends_t); case h => first | rfl | (simp only [stp, stq]; done))
          | ((with_reducible apply ends_f); case h => first | rfl | (simp only [stp, stq]; done))
        exact ends_some (.inl ⟨rfl, r - 1, by omega, i + 1, _, _, _, by first | rfl | (rw [← e3]; rfl), by omega, f1, f2, f3, f4⟩)
    · have g2 : decide ((i : Int) < (n : Int)) = false := decide_eq_false (by omega)
      have stq := (And.intro (nl) (And.intro (fa) (And.intro (ldy) (And.intro (ln1) (g2)))))
      repeat first
        | ((with_reducible apply ends_bind); case h => first | (simp only [stp, stq]; first | done | rfl) | rfl)
        | ((with_reducible apply ends_t); case h => first | rfl | (simp only [stp, stq]; done))
        | ((with_reducible apply ends_f); case h => first | rfl | (simp only [stp, stq]; done))
      refine ends_some (.inr (.inl ⟨0, rfl, X_r04_Disk_Crash_0_0_lit ?_⟩))
      unfold X_r04_Disk_Crash_0_0
      refine ends_some ⟨.inr rfl, y, c1, w1, rfl, By, fun j hj => by rw [hcs j hj, if_pos (by omega)], fun j => ?_, Sy'⟩
      rw [hws j]
      by_cases h1 : j < i
      · rw [if_pos h1]
      · rw [if_neg h1]
        unfold wtl
        rw [List.getElem?_eq_none (by rw [B.hl]; omega)]
  obtain ⟨e, s, h1, h2, bx', c', wt', h3, h5⟩ := key
  refine ⟨bx', c', wt', ?_, h5⟩
  rw [E_r04_Disk_Crash]
  exact ends_fin (P := Try.prog) ⟨e, s, h1, h2, [], rfl, by rw [h3]; rfl⟩
/-- blocks that are read, and that the other side's steps leave alone -/
structure Blks (R : Nat → Prop) (bx : Bx) (x : AV) (m : Nat) (cs : List UInt8) : Prop where
  ln : lenA Try.prog 35 x = some (.v (.int .i64 m))
  hc : cs.length = m * 64
  ix : ∀ i, i < m → ∃ a, indexAddrA Try.prog 35 x (.v (.int .i64 i)) = some a ∧ ∀ y : Bx, (∀ j, j < bx.length → ¬ R j → y[j]? = bx[j]?) → loadA Try.prog 32 y a = some (.agg (u8l (bk cs i)))
theorem rload_no (k : Nat) (B : RB R bx ry rs rw_ rq n l u g z c wt) {x : AV} {m : Nat} {cs : List UInt8} (hx : Blks R bx x m cs) (hm : m ≠ n) : evFn cx0 ext0 (k + 1) 37 [.bp ry 0, x] bx = some (.v (.int .i64 2), bx) := by
  have nl := nl ry
  have fa := fa57 ry
  have ld := B.ld
  have ln1 := ln_bb rs n 64
  have lx := hx.ln
  have g1 : ((m : Int) != (n : Int)) = true := by simp; omega
  rw [E_r04_Disk_Load]
  refine ends_fin (P := Try.prog) ?_
  unfold F_r04_Disk_Load
  have stq := (And.intro (lx) (And.intro (nl) (And.intro (fa) (And.intro (ld) (And.intro (ln1) (g1))))))
  repeat first
    | ((with_reducible apply ends_bind); case h => first | (simp only [stp, stq]; first | done | rfl) | rfl)
    | ((with_reducible apply ends_t); case h => first | rfl | (simp only [stp, stq]; done))
    | ((with_reducible apply ends_f); case h => first | rfl | (simp only [stp, stq]; done))
  exact ends_some ⟨.inl rfl, _, rfl, rfl⟩
theorem rload_ok (k : Nat) (hn : n ≤ 2048) (hk : n + 2 ≤ k) (B : RB R bx ry rs rw_ rq n l u g z c wt) {x : AV} {cs : List UInt8} (hx : Blks R bx x n cs) :
    ∃ (bx' : Bx) (wt' : Wl), evFn cx0 ext0 (k + 1) 37 [.bp ry 0, x] bx = some (.v (.int .i64 0), bx') ∧
      RB R bx' ry rs rw_ rq n l u g z cs wt' ∧ (∀ j, wtl wt' j = []) ∧ Stp R R bx bx' := by
  have nl := nl ry
  have fa := fa57 ry
  have ld := B.ld
  have ln1 := ln_bb rs n 64
  have lx := hx.ln
  have g1 : ((n : Int) != (n : Int)) = false := by simp
  have key : Ends (F_r04_Disk_Load (evFn cx0 ext0 k) k bx.length (.bp ry 0) x bx) fun e s => (e = .ret ∨ e = .normal) ∧ ∃ (bx' : Bx) (wt' : Wl), s.bx = bx' ∧ get s.env 4 = .v (.int .i64 0) ∧
      RB R bx' ry rs rw_ rq n l u g z cs wt' ∧ (∀ j, wtl wt' j = []) ∧ Stp R R bx bx' := by
    unfold F_r04_Disk_Load
    have stq := (And.intro (lx) (And.intro (nl) (And.intro (fa) (And.intro (ld) (And.intro (ln1) (g1))))))
    repeat first
      | ((with_reducible apply ends_bind); case h => first | (simp only [stp, stq]; first | done | rfl) | rfl)
      | ((with_reducible apply ends_t); case h => first | rfl | (simp only [stp, stq]; done))
      | ((with_reducible apply ends_f); case h => first | rfl | (simp only [stp, stq]; done))
    refine ends_loop (n := k) (fun r t => ∃ (i : Nat) (y : Bx) (c1 : List UInt8) (w1 : Wl) (x13 x4 : AV), t = ⟨[(5, .v (.int .i64 i)), (13, x13), (4, x4), (0, .bp ry 0), (1, x)], y⟩ ∧ i + r = n ∧ RB R y ry rs rw_ rq n l u g z c1 w1 ∧ Stp R R bx y ∧
        (∀ j, j < n → bk c1 j = if j < i then bk cs j else bk c j) ∧ (∀ j, wtl w1 j = if j < i then [] else wtl wt j)) n (by omega) ⟨0, bx, c, wt, _, _, rfl, by omega, B, .refl bx, fun j _ => by simp, fun j => by simp⟩ ?_
    rintro r t ⟨i, y, c1, w1, x13, x4, rfl, hir, By, Sy', hcs, hws⟩
    refine L_r04_Disk_Load_0_lit ?_
    unfold B_r04_Disk_Load_0
    have ldy := By.ld
    by_cases hi : i < n
    · have g2 : decide ((i : Int) < (n : Int)) = true := decide_eq_true (by omega)
      have e3 : IntKind.i64.wrap ((i : Int) + 1) = ((i + 1 : Nat) : Int) := by rw [wrap64]; omega
      obtain ⟨a, ha, hl⟩ := hx.ix i hi
      have hl := hl y Sy'.fr
      have hbl : (bk cs i).length = 64 := bk_len hi hx.hc
      have ixs := ix_bb rs n i .i64 hi
      have sts := st_bb By.hs By.hc hi hbl
      have B3 := By.stb (spl_len By.hc hi hbl)
      obtain ⟨b3, hb3⟩ : ∃ x, x = y.set rs (u8l (spl c1 i (bk cs i))) := ⟨_, rfl⟩
      rw [← hb3] at sts B3
      have ixw := ix_w rw_ n i hi
      have stw : stA Try.prog 35 b3 (.bp rw_ i) (.v (.slice none 0 0)) = some (.v undef, b3.set rw_ ((w1.set i none).map wc)) := st_w B3 hi none
      have B4 := B3.lst i none (fun q e => by cases e)
      obtain ⟨b4, hb4⟩ : ∃ x, x = b3.set rw_ ((w1.set i none).map wc) := ⟨_, rfl⟩
      rw [← hb4] at stw B4
      have hS4 : Stp R R bx b4 := Sy'.trans ⟨by rw [hb4, hb3]; simp, fun j hj ht => by rw [hb4, List.getElem?_set_ne (fun e => by subst e; exact ht B.od.2.2.1), hb3, List.getElem?_set_ne (fun e => by subst e; exact ht B.od.2.1)], fun j hj => .inl hj, fun gd => by rw [hb4, hb3]; exact (gd.set (eqCs_u8l _) _).set (eqCs_wt _) _⟩ fun _ h => h
      have stq := (And.intro (lx) (And.intro (g2) (And.intro (nl) (And.intro (fa) (And.intro (ldy) (And.intro (ha) (And.intro (hl) (And.intro (ixs) (And.intro (sts) (And.intro (ixw) (And.intro (stw) (e3))))))))))))
      repeat first
        | ((with_reducible apply ends_bind); case h => first | (simp only [stp, stq]; first | done | rfl) | rfl)
        | ((with_reducible apply ends_t); case h => first | rfl | (simp only [stp, stq]; done))
        | ((with_reducible apply ends_f); case h => first | rfl | (simp only [stp, stq]; done))
      refine ends_some (.inl ⟨rfl, r - 1, by omega, i + 1, b4, _, _, _, _, by first | rfl | (rw [← e3]; rfl), by omega, B4, hS4, fun j hj => ?_, fun j => ?_⟩)
      · by_cases e : j = i
        · subst e
          rw [spl_at By.hc hi hbl, if_pos (by omega)]
        · rw [spl_ne By.hc hi hj e hbl, hcs j hj]
          by_cases h1 : j < i
          · rw [if_pos h1, if_pos (by omega)]
          · rw [if_neg h1, if_neg (by omega)]
      · rw [wtl_set w1 i (by rw [By.hl]; exact hi)]
        by_cases e : j = i
        · rw [if_pos e, if_pos (by omega)]
          rfl
        · rw [if_neg e, hws j]
          by_cases h1 : j < i
          · rw [if_pos h1, if_pos (by omega)]
          · rw [if_neg h1, if_neg (by omega)]
    · have g2 : decide ((i : Int) < (n : Int)) = false := decide_eq_false (by omega)
      have stq := (And.intro (lx) (g2))
      repeat first
        | ((with_reducible apply ends_bind); case h => first | (simp only [stp, stq]; first | done | rfl) | rfl)
        | ((with_reducible apply ends_t); case h => first | rfl | (simp only [stp, stq]; done))
        | ((with_reducible apply ends_f); case h => first | rfl | (simp only [stp, stq]; done))
      refine ends_some (.inr (.inl ⟨0, rfl, X_r04_Disk_Load_0_0_lit ?_⟩))
      unfold X_r04_Disk_Load_0_0
      have hcc : c1 = cs := bk_ext n By.hc hx.hc fun j hj => by rw [hcs j hj, if_pos (by omega)]
      subst hcc
      refine ends_some ⟨.inl rfl, y, w1, rfl, rfl, By, fun j => ?_, Sy'⟩
      rw [hws j]
      by_cases h1 : j < i
      · rw [if_pos h1]
      · rw [if_neg h1]
        unfold wtl
        rw [List.getElem?_eq_none (by rw [B.hl]; omega)]
  obtain ⟨e, s, h1, h2, bx', wt', h3, h4, h5⟩ := key
  refine ⟨bx', wt', ?_, h5⟩
  rw [E_r04_Disk_Load]
  refine ends_fin (P := Try.prog) ⟨e, s, h1, h2, [.v (.int .i64 0)], ?_, by rw [h3]; rfl⟩
  show some [get s.env 4] = _
  rw [h4]
end
end Go.Sy

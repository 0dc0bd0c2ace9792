/-
  Layer 04: what disk.Crash does to a disk's boxes: one round. Layer 04: what disk.Crash does to a disk's boxes: sector by sector, whatever the order. Layer 04: disk.Crash, by hand. Layer 04: disk.Crash, by hand: the walk.
-/
import Derived.Test.YtijmfjpcjceejaaPfBlk
import Derived.Test.YtijmfjpcjceejaaPPc
namespace Go.Sy.Pre
open Go.Proofs

/-- how many of a sector's blocks come about -/
def keepN (ks : List Int) (k cnt : Nat) : Nat := if k < ks.length then (min (max (ks.getD k 0) 0) (cnt : Int)).toNat else 0
theorem keepN_le (ks : List Int) (k cnt : Nat) : keepN ks k cnt ≤ cnt := by unfold keepN; split <;> omega
/-- what a sector has behind a crash -/
def crBlk (ks : List Int) (c : List UInt8) (k : Nat) (e : List UInt8) : List UInt8 := if 0 < keepN ks k (e.length / 64) then bk e (keepN ks k (e.length / 64) - 1) else bk c k
/-- a list of whole numbers that is read -/
structure Ints (bx : Bx) (x : AV) (ks : List Int) : Prop where
  ln : lenA Try.prog 23 x = some (.v (.int .i64 ks.length))
  ix : ∀ i (h : i < ks.length), ∃ a, indexAddrA Try.prog 23 x (.v (.int .i64 i)) = some a ∧ loadA Try.prog 3 bx a = some (.v (.int .i64 ks[i]))
theorem fa_d (d : Nat) : fieldAddrA Try.prog 63 (.bp d 0) 1 = some (.bp d 1) ∧ fieldAddrA Try.prog 63 (.bp d 0) 2 = some (.bp d 2) ∧ fieldAddrA Try.prog 63 (.bp d 0) 0 = some (.bp d 0) ∧ fieldAddrA Try.prog 63 (.bp d 0) 3 = some (.bp d 3) := ⟨by kernel_rfl, by kernel_rfl, by kernel_rfl, by kernel_rfl⟩
theorem ld_d1 {bx : Bx} {d : Nat} {p s m w : AV} (h : bx[d]? = some [p, s, m, w]) : loadA Try.prog 35 bx (.bp d 1) = some s := by
  have h1 : szA Try.prog 35 = some 1 ∧ agA Try.prog 35 = some false := ⟨by kernel_rfl, by kernel_rfl⟩
  simp only [loadA, h, Option.bind_some, partA, h1.1, h1.2]
  rfl
theorem ld_d2 {bx : Bx} {d : Nat} {p s m w : AV} (h : bx[d]? = some [p, s, m, w]) : loadA Try.prog 61 bx (.bp d 2) = some m := by
  have h1 : szA Try.prog 61 = some 1 ∧ agA Try.prog 61 = some false := ⟨by kernel_rfl, by kernel_rfl⟩
  simp only [loadA, h, Option.bind_some, partA, h1.1, h1.2]
  rfl
theorem crash_round {k0 n n0 : Nat} {bx : Bx} {d s sn : Nat} {p m w : AV} (hd : bx[d]? = some [p, .bsl s 0 sn 64, m, w]) {c : List UInt8} (hs : bx[s]? = some (u8l c)) (hc : c.length = sn * 64) {keep : AV} {ks : List Int} (hk : Ints bx keep ks)
    (k : Nat) (hkn : k < sn) (b cnt : Nat) (e : List UInt8) (hb : bx[b]? = some (u8l e)) (he : e.length = cnt * 64) (hcnt : cnt < 2 ^ 62) (itv : AV) :
    Ends (F_crR4 (evFn cx0 ext0 k0) n n0 (.bp d 0) keep (.v (.int .i64 k)) (.gs b cnt 64) itv bx) fun ex s' => ex = .normal ∧ s'.bx = (if 0 < keepN ks k cnt then bx.set s (u8l (spl c k (bk e (keepN ks k cnt - 1)))) else bx) ∧
      get s'.env 0 = .bp d 0 ∧ get s'.env 1 = keep ∧ get s'.env 13 = itv := by
  have hln := hk.ln
  have fa := fa_d d
  have ln := ln_gs b cnt 64
  have nl : ∀ d : Nat, nilA (.bp d 0) = some (.bp d 0) := fun _ => rfl
  have l1 := ld_d1 hd
  have ixs := ix_bb s sn k .i64 hkn
  unfold F_crR4
  by_cases h1 : k < ks.length
  · have g1 : decide ((k : Int) < (ks.length : Int)) = true := decide_eq_true (by omega)
    obtain ⟨a, ha, hl⟩ := hk.ix k h1
    have hkk : ks.getD k 0 = ks[k] := by simp [h1]
    have mn : minL false (.v (.int .i64 (max ks[k] 0))) [.v (.int .i64 cnt)] = some (.v (.int .i64 (keepN ks k cnt : Nat))) := by
      rw [min_v]
      unfold keepN
      rw [if_pos h1, hkk]
      congr 3
      omega
    have hle := keepN_le ks k cnt
    generalize keepN ks k cnt = j at *
    by_cases h2 : 0 < j
    · have g2 : decide ((0 : Int) < (j : Int)) = true := decide_eq_true (by omega)
      have ew : IntKind.i64.wrap ((j : Int) - 1) = ((j - 1 : Nat) : Int) := by rw [wrap64]; omega
      have ixb := ix_gs b cnt (j - 1) .i64 (by omega)
      have ldb := ld_gs (j := j - 1) hb he (by omega)
      have stb := st_bb hs hc hkn (bk_len (i := j - 1) (by omega) he)
      rw [if_pos h2]
      have stq := (And.intro (hln) (And.intro (g1) (And.intro (ha) (And.intro (hl) (And.intro (ln) (And.intro (mn) (And.intro (g2) (And.intro (nl) (And.intro (fa) (And.intro (l1) (And.intro (ew) (And.intro (ixb) (And.intro (ldb) (And.intro (ixs) (stb)))))))))))))))
      repeat first
        | ((with_reducible apply ends_bind); case h => first | (simp only [stp, stq]; first | done | rfl) | rfl)
        | ((with_reducible apply ends_t); case h => first | rfl | (simp only [stp, stq]; done))
        | ((with_reducible apply ends_f); case h => first | rfl | (simp only [stp, stq]; done))
      exact ends_some ⟨rfl, rfl, rfl, rfl, rfl⟩
    · have g2 : decide ((0 : Int) < (j : Int)) = false := decide_eq_false (by omega)
      rw [if_neg h2]
      have stq := (And.intro (hln) (And.intro (g1) (And.intro (ha) (And.intro (hl) (And.intro (ln) (And.intro (mn) (g2)))))))
      repeat first
        | ((with_reducible apply ends_bind); case h => first | (simp only [stp, stq]; first | done | rfl) | rfl)
        | ((with_reducible apply ends_t); case h => first | rfl | (simp only [stp, stq]; done))
        | ((with_reducible apply ends_f); case h => first | rfl | (simp only [stp, stq]; done))
      exact ends_some ⟨rfl, rfl, rfl, rfl, rfl⟩
  · have g1 : decide ((k : Int) < (ks.length : Int)) = false := decide_eq_false (by omega)
    have hj : keepN ks k cnt = 0 := by unfold keepN; rw [if_neg h1]
    have g2 : decide ((0 : Int) < 0) = false := rfl
    rw [hj, if_neg (by omega)]
    have stq := (And.intro (hln) (And.intro (g1) (g2)))
    repeat first
      | ((with_reducible apply ends_bind); case h => first | (simp only [stp, stq]; first | done | rfl) | rfl)
      | ((with_reducible apply ends_t); case h => first | rfl | (simp only [stp, stq]; done))
      | ((with_reducible apply ends_f); case h => first | rfl | (simp only [stp, stq]; done))
    exact ends_some ⟨rfl, rfl, rfl, rfl, rfl⟩
end Go.Sy.Pre

namespace Go.Sy.Pre
open Go.Proofs
open Go.Sy.Pr0 (Wt Ws wEs)

theorem nd_idx : ∀ {l : List Nat}, l.Nodup → ∀ {i j x : Nat}, l[i]? = some x → l[j]? = some x → i = j
  | [], _, i, j, x, h, _ => by simp at h
  | a :: l, hn, 0, 0, x, _, _ => rfl
  | a :: l, hn, 0, j + 1, x, hi, hj => by
    rw [List.nodup_cons] at hn
    simp at hi
    subst hi
    exact (hn.1 (List.mem_of_getElem? (i := j) (by simpa using hj))).elim
  | a :: l, hn, i + 1, 0, x, hi, hj => by
    rw [List.nodup_cons] at hn
    simp at hj
    subst hj
    exact (hn.1 (List.mem_of_getElem? (i := i) (by simpa using hi))).elim
  | a :: l, hn, i + 1, j + 1, x, hi, hj => by
    rw [List.nodup_cons] at hn
    exact congrArg (· + 1) (nd_idx hn.2 (i := i) (j := j) (x := x) (by simpa using hi) (by simpa using hj))
theorem find_congr {α : Type} {p q : α → Bool} : ∀ {l : List α}, (∀ x ∈ l, p x = q x) → l.find? p = l.find? q
  | [], _ => rfl
  | x :: l, h => by
    rw [List.find?_cons, List.find?_cons, h x (by simp), find_congr fun y hy => h y (by simp [hy])]
theorem find_uniq {α : Type} {p : α → Bool} {x : α} : ∀ {l : List α}, x ∈ l → p x = true → (∀ y ∈ l, p y = true → y = x) → l.find? p = some x
  | [], h, _, _ => by cases h
  | a :: l, h, hp, hu => by
    rw [List.find?_cons]
    cases ha : p a
    · rcases List.mem_cons.1 h with rfl | h
      · rw [hp] at ha; cases ha
      · exact find_uniq h hp fun y hy hpy => hu y (by simp [hy]) hpy
    · rw [hu a (by simp) ha]
def sel (bs : List Nat) (ws : Ws) (seen : List Nat) (k : Nat) : Option (Nat × Wt) := (bs.zip ws).find? fun q => q.2.1 == k && seen.contains q.1
/-- the stable bytes when these sectors have been looked at; 'f': what a sector has then -/
def layS (f : Nat → List UInt8 → List UInt8) (n : Nat) (c : List UInt8) (bs : List Nat) (ws : Ws) (seen : List Nat) : List UInt8 := lay n fun k => match sel bs ws seen k with
  | some q => f k q.2.2.2
  | none => bk c k
structure WOk (n s : Nat) (bx : Bx) (bs : List Nat) (ws : Ws) : Prop where
  nd : bs.Nodup
  ln : bs.length = ws.length
  hw : ∀ q ∈ ws, q.1 < n ∧ q.2.1 ≠ s ∧ bx[q.2.1]? = some (u8l q.2.2) ∧ q.2.2.length % 64 = 0 ∧ q.2.2.length < 2 ^ 60
  hk : (ws.map (·.1)).Nodup
theorem zip_at {bs : List Nat} {ws : Ws} {x : Nat × Wt} (h : x ∈ bs.zip ws) : ∃ j : Nat, bs[j]? = some x.1 ∧ ws[j]? = some x.2 := by
  obtain ⟨j, hj⟩ := List.getElem?_of_mem h
  rw [List.getElem?_zip_eq_some] at hj
  exact ⟨j, hj⟩
theorem at_zip {bs : List Nat} {ws : Ws} {j b : Nat} {q : Wt} (h1 : bs[j]? = some b) (h2 : ws[j]? = some q) : (b, q) ∈ bs.zip ws :=
  List.mem_of_getElem? (i := j) (by rw [List.getElem?_zip_eq_some]; exact ⟨h1, h2⟩)
theorem zip_key {n s : Nat} {bx : Bx} {bs : List Nat} {ws : Ws} (H : WOk n s bx bs ws) {x y : Nat × Wt} (hx : x ∈ bs.zip ws) (hy : y ∈ bs.zip ws) (h : x.2.1 = y.2.1) : x = y := by
  obtain ⟨i, h1, h2⟩ := zip_at hx
  obtain ⟨j, h3, h4⟩ := zip_at hy
  have : i = j := nd_idx (x := x.2.1) H.hk (by rw [List.getElem?_map, h2]; rfl) (by rw [List.getElem?_map, h4, h]; rfl)
  subst this
  rw [h1] at h3
  rw [h2] at h4
  exact Prod.ext (Option.some.inj h3) (Option.some.inj h4)
theorem layS_len {f : Nat → List UInt8 → List UInt8} {n s : Nat} {bx : Bx} {c : List UInt8} {bs : List Nat} {ws : Ws} (H : WOk n s bx bs ws) (hc : c.length = n * 64) (hf : ∀ q ∈ ws, (f q.1 q.2.2).length = 64) (seen : List Nat) :
    (∀ k, k < n → (match sel bs ws seen k with | some q => f k q.2.2.2 | none => bk c k).length = 64) ∧ (layS f n c bs ws seen).length = n * 64 := by
  have h : ∀ k, k < n → (match sel bs ws seen k with | some q => f k q.2.2.2 | none => bk c k).length = 64 := by
    intro k hk
    cases hs : sel bs ws seen k with
    | none => exact bk_len hk hc
    | some q =>
      have hp := List.find?_some hs
      have hm := List.mem_of_find?_eq_some hs
      simp only [Bool.and_eq_true, beq_iff_eq] at hp
      obtain ⟨j, _, h2⟩ := zip_at hm
      show (f k q.2.2.2).length = 64
      rw [← hp.1]
      exact hf q.2 (List.mem_of_getElem? h2)
  exact ⟨h, lay_len n _ h⟩
theorem layS_step {f : Nat → List UInt8 → List UInt8} {n s : Nat} {bx : Bx} {c : List UInt8} {bs : List Nat} {ws : Ws} (H : WOk n s bx bs ws) (hc : c.length = n * 64) (hf : ∀ q ∈ ws, (f q.1 q.2.2).length = 64) (seen : List Nat) {i b : Nat} {q : Wt}
    (h1 : bs[i]? = some b) (h2 : ws[i]? = some q) (hb : b ∉ seen) :
    spl (layS f n c bs ws seen) q.1 (f q.1 q.2.2) = layS f n c bs ws (seen ++ [b]) ∧ bk (layS f n c bs ws seen) q.1 = bk c q.1 := by
  have hz := at_zip h1 h2
  have hq := List.mem_of_getElem? h2
  obtain ⟨l1, l2⟩ := layS_len H hc hf seen
  obtain ⟨l3, l4⟩ := layS_len H hc hf (seen ++ [b])
  have hqn := (H.hw q hq).1
  have s0 : sel bs ws seen q.1 = none := by
    unfold sel
    rw [List.find?_eq_none]
    intro x hx hp
    simp only [Bool.and_eq_true, beq_iff_eq] at hp
    have := zip_key H hx hz hp.1
    subst this
    exact hb (by simpa using hp.2)
  have s1 : sel bs ws (seen ++ [b]) q.1 = some (b, q) := by
    unfold sel
    refine find_uniq hz (by simp) fun y hy hp => ?_
    simp only [Bool.and_eq_true, beq_iff_eq] at hp
    exact zip_key H hy hz hp.1
  have s2 : ∀ k, k ≠ q.1 → sel bs ws (seen ++ [b]) k = sel bs ws seen k := by
    intro k hk
    unfold sel
    refine find_congr fun x hx => ?_
    by_cases e : x.2.1 = k
    · have hxb : x.1 ≠ b := by
        intro hc
        obtain ⟨j, g1, g2⟩ := zip_at hx
        have : j = i := nd_idx H.nd g1 (hc ▸ h1)
        subst this
        rw [h2] at g2
        exact hk (by rw [← e, ← Option.some.inj g2])
      simp [hxb]
    · have : (x.2.1 == k) = false := by simpa using e
      rw [this]
      rfl
  refine ⟨bk_ext n (spl_len l2 hqn (hf q hq)) l4 fun k hk => ?_, ?_⟩
  · rw [show bk (layS f n c bs ws (seen ++ [b])) k = _ from lay_bk n _ l3 k hk]
    by_cases e : k = q.1
    · subst e
      rw [spl_at l2 hqn (hf q hq), s1]
    · rw [spl_ne l2 hqn hk e (hf q hq), show bk (layS f n c bs ws seen) k = _ from lay_bk n _ l1 k hk, s2 k e]
  · rw [show bk (layS f n c bs ws seen) q.1 = _ from lay_bk n _ l1 q.1 hqn, s0]
theorem layS_none {f : Nat → List UInt8 → List UInt8} {n : Nat} {c : List UInt8} {bs : List Nat} {ws : Ws} (hc : c.length = n * 64) : layS f n c bs ws [] = c := by
  have hs : ∀ k, sel bs ws [] k = none := by
    intro k
    unfold sel
    rw [List.find?_eq_none]
    intro x _ hp
    simp at hp
  have h : ∀ k, k < n → (match sel bs ws [] k with | some q => f k q.2.2.2 | none => bk c k).length = 64 := fun k hk => by rw [hs k]; exact bk_len hk hc
  refine bk_ext n (lay_len n _ h) hc fun k hk => ?_
  rw [show bk (layS f n c bs ws []) k = _ from lay_bk n _ h k hk, hs k]
theorem layS_all {f : Nat → List UInt8 → List UInt8} {n : Nat} {c : List UInt8} {bs : List Nat} {ws : Ws} {seen : List Nat} (h : ∀ b ∈ bs, b ∈ seen) : layS f n c bs ws seen = layS f n c bs ws bs := by
  unfold layS
  congr 1
  funext k
  have : sel bs ws seen k = sel bs ws bs k := by
    unfold sel
    refine find_congr fun x hx => ?_
    obtain ⟨j, g1, _⟩ := zip_at hx
    have hb := List.mem_of_getElem? g1
    simp [hb, h x.1 hb]
  rw [this]
end Go.Sy.Pre

namespace Go.Sy.Pre
open Go.Proofs

theorem hE0 : ∀ f args bx r bx', evFn cx0 ext0 1000 f args bx = some (r, bx') → Sound Try.prog f args bx r bx' := fun f args bx r bx' h => evFn_sound (cx := cx0) ext0_ok 1000 f args bx r bx' h
theorem c_crAll : Try.f12.body = some (.seq c_crP0 (.seq (.seq c_crR1 c_crBlk) c_crP9)) := by kernel_rfl
theorem c_crBlkE : c_crBlk = .block 0 (.loop c_crB) := by kernel_rfl
theorem c_crR1E : c_crR1 = .region 1 (opsC c_crR1) false := by kernel_rfl
theorem o_crR1 : ∃ o1 o2 o3 o4 o5 : Oper, (opsC c_crR1).toList = [o1, o2, o3, o4, o5] ∧ (o1.op = .move (.tmp 0) ∧ o1.dst = some 9 ∧ o1.guard = none) ∧ (o2.op = .nilCheck (.tmp 9) ∧ o2.dst = some 10 ∧ o2.guard = none) ∧
    (o3.op = .fieldAddr 63 (.tmp 10) 2 ∧ o3.dst = some 11 ∧ o3.guard = none) ∧ (o4.op = .load 61 (.tmp 11) ∧ o4.dst = some 12 ∧ o4.guard = none) ∧ (o5.op = .range 61 (.tmp 12) ∧ o5.dst = some 13 ∧ o5.guard = none) :=
  ⟨_, _, _, _, _, rfl, ⟨rfl, rfl, rfl⟩, ⟨rfl, rfl, rfl⟩, ⟨rfl, rfl, rfl⟩, ⟨rfl, rfl, rfl⟩, ⟨rfl, rfl, rfl⟩⟩
theorem rg_cr : ∃ o1 o2 oe o3 o4 o5 o6 : Oper, RgCode c_crB 13 14 15 16 0 1 c_crR4 (opsC c_crR2) (opsC c_crR3) o1 o2 oe [o3, o4, o5, o6] ∧
    (o3.op = .extract (.tmp 16) 0 ∧ o3.dst = some 17 ∧ o3.guard = none) ∧ (o4.op = .extract (.tmp 16) 1 ∧ o4.dst = some 18 ∧ o4.guard = none) ∧ (o5.op = .assign (.tmp 17) ∧ o5.dst = some 4 ∧ o5.guard = none) ∧ (o6.op = .assign (.tmp 18) ∧ o6.dst = some 5 ∧ o6.guard = none) :=
  ⟨_, _, _, _, _, _, _, ⟨⟨2, 3, by kernel_rfl⟩, rfl, ⟨rfl, rfl, rfl⟩, ⟨rfl, rfl, rfl⟩, rfl, ⟨rfl, rfl, rfl⟩⟩, ⟨rfl, rfl, rfl⟩, ⟨rfl, rfl, rfl⟩, ⟨rfl, rfl, rfl⟩, ⟨rfl, rfl, rfl⟩⟩
theorem mp_wt : mpT Try.prog 61 = some (3, 35) := by kernel_rfl
end Go.Sy.Pre

namespace Go.Sy.Pre
open Go.Proofs
open Go.Sy.Pr0 (Wt Ws wEs)

structure CrH (bx : Bx) (d s n m cl : Nat) (c : List UInt8) (bs : List Nat) (ws : Ws) (p wv keep : AV) (ks : List Int) : Prop where
  hd : bx[d]? = some [p, .bsl s 0 n 64, .mp m, wv]
  hs : bx[s]? = some (u8l c)
  hc : c.length = n * 64
  hm : bx[m]? = some (stH cl bs :: wEs ws)
  lt : ∀ b ∈ bs, b < cl
  ok : WOk n s bx bs ws
  ne : d ≠ s ∧ m ≠ s
  hk : ∀ bx' : Bx, (∀ i, i ≠ s → bx'[i]? = bx[i]?) → Ints bx' keep ks
theorem crBlk_len {n s : Nat} {bx : Bx} {bs : List Nat} {ws : Ws} (H : WOk n s bx bs ws) {c : List UInt8} (hc : c.length = n * 64) (ks : List Int) (q : Wt) (hq : q ∈ ws) : (crBlk ks c q.1 q.2.2).length = 64 := by
  obtain ⟨h1, _, _, h4, _⟩ := H.hw q hq
  unfold crBlk
  split
  · have := keepN_le ks q.1 (q.2.2.length / 64)
    exact bk_len (n := q.2.2.length / 64) (by omega) (by omega)
  · exact bk_len h1 hc
theorem spl_self {c : List UInt8} {n k : Nat} (hc : c.length = n * 64) (hk : k < n) : spl c k (bk c k) = c := by
  have hl := bk_len hk hc
  refine bk_ext n (spl_len hc hk hl) hc fun i hi => ?_
  by_cases e : i = k
  · subst e
    exact spl_at hc hk hl
  · exact spl_ne hc hk hi e hl
theorem ptr_ne (d o : Nat) : binA Try.prog .eql 25 (.bp d o) (.v (.pointer none)) = some (.v (.bool false)) := by kernel_rfl
set_option maxRecDepth 100000 in
theorem crash_sound {bx : Bx} {d s n m cl : Nat} {c : List UInt8} {bs : List Nat} {ws : Ws} {p wv keep : AV} {ks : List Int} (H : CrH bx d s n m cl c bs ws p wv keep ks) :
    Sound Try.prog 12 [.bp d 0, keep] bx (.tup []) ((bx.set s (u8l (layS (crBlk ks c) n c bs ws bs))).set m [stH cl []]) := by
  refine ⟨fun vs w => ?_, fun G w β vs hz hM hsz hv => ?_⟩
  · unfold callFunc
    simp only [Sem.run_bind, run_program, Result.andThen_ok, Try.func12]
    rw [if_neg (by decide +kernel), if_neg (by decide +kernel)]
    simp
  refine calls_of_wp Try.func12 c_crAll ?_
  have r0 : ER [] G w β 48 [(0, .bp d 0), (1, keep)] { tmps := vs ++ Array.replicate (48 - vs.size) undef, defers := [] } := ER.begin [.bp d 0, keep] vs hsz (by show 2 ≤ 48; omega) hv
  have hf := crBlk_len H.ok H.hc ks
  let B : List Nat → Bx := fun seen => bx.set s (u8l (layS (crBlk ks c) n c bs ws seen))
  have hBne : ∀ seen i, i ≠ s → (B seen)[i]? = bx[i]? := fun seen i hi => List.getElem?_set_ne (Ne.symm hi)
  have hslt : s < bx.length := (List.getElem?_eq_some_iff.1 H.hs).1
  have hBs : ∀ seen, (B seen)[s]? = some (u8l (layS (crBlk ks c) n c bs ws seen)) := fun seen => List.getElem?_set_self hslt
  have hB0 : B [] = bx := by
    show bx.set s (u8l (layS (crBlk ks c) n c bs ws [])) = bx
    rw [layS_none H.hc]
    exact List.set_getElem?_self' H.hs
  refine wp_seq ?_
  refine wp_piece (n0 := bx.length) (s := ⟨[(0, .bp d 0), (1, keep)], bx⟩) hE0 d_crP0 (Nat.le_refl _) (fun ex s' => ex = .normal ∧ s'.bx = bx ∧ get s'.env 0 = .bp d 0 ∧ get s'.env 1 = keep)
    (F_crP0_eq (evFn cx0 ext0 1000) 1000 bx.length (.bp d 0) keep bx) (by
      have pn := ptr_ne d 0
      unfold F_crP0
      have stq := (pn)
      repeat first
        | ((with_reducible apply ends_bind); case h => first | (simp only [stp, stq]; first | done | rfl) | rfl)
        | ((with_reducible apply ends_t); case h => first | rfl | (simp only [stp, stq]; done))
        | ((with_reducible apply ends_f); case h => first | rfl | (simp only [stp, stq]; done))
      exact ends_some ⟨rfl, rfl, rfl, rfl⟩) hM r0 ?_
  rintro ex ⟨env1, bx1⟩ ⟨rfl, hb1, h0, h1⟩ x1 w1 β1 e1 m1 r1
  simp only at hb1 h0 h1 m1 r1
  subst hb1
  have r1' := r1.pick [0, 1]
  simp only [List.map_cons, List.map_nil, h0, h1] at r1'
  refine wp_seq ?_
  refine wp_seq ?_
  rw [c_crR1E]
  refine wp_region_list ?_
  obtain ⟨o1, o2, o3, o4, o5, ho, p1, p2, p3, p4, p5⟩ := o_crR1
  rw [ho]
  refine list_op (n0 := bx1.length) hE0 (md := md0) p1.2.2 (by rw [p1.1]; rfl) (by rw [p1.1]; rfl) (by rw [p1.2.1]; rfl) m1 r1' ?_
  intro a1 u1 γ1 f1 n1 s1
  refine list_op (n0 := bx1.length) hE0 (md := md0) p2.2.2 (by rw [p2.1]; rfl) (by rw [p2.1]; rfl) (by rw [p2.2.1]; rfl) n1 s1 ?_
  intro a2 u2 γ2 f2 n2 s2
  have hfa := (fa_d d).2.1
  have hld := ld_d2 H.hd
  refine list_op (n0 := bx1.length) (r := .bp d 2) (env' := _) (bx' := bx1) hE0 (md := md0) p3.2.2 (by rw [p3.1]; rfl) (by rw [p3.1]; exact congrArg (Option.map fun r => (r, (_ : Env), bx1)) hfa) (by rw [p3.2.1]; rfl) n2 s2 ?_
  intro a3 u3 γ3 f3 n3 s3
  refine list_op (n0 := bx1.length) (r := .mp m) (env' := _) (bx' := bx1) hE0 (md := md0) p4.2.2 (by rw [p4.1]; rfl) (by rw [p4.1]; exact congrArg (Option.map fun r => (r, (_ : Env), bx1)) hld) (by rw [p4.2.1]; rfl) n3 s3 ?_
  intro a4 u4 γ4 f4 n4 s4
  have s4' := s4.pick [12, 0, 1]
  have s4'' : ER [] G u4 γ4 48 [(12, .mp m), (0, .bp d 0), (1, keep)] a4 := s4'
  have hv12 : VR u4 (im G u4 γ4) γ4 (.mp m) (a4.eval (.tmp 12)) := s4''.opnd (.tmp 12)
  obtain ⟨blk, es, cl', hβ, hval, hheap, t, ht, hes⟩ := n4.mget hv12 H.hm
  rw [List.cons.injEq] at ht
  obtain ⟨g1, g2⟩ := stH_inj ht.1
  subst g1
  have hrange := run_range_map (P := Try.prog) u4 61 3 35 blk es cl (mpT_spec mp_wt) hheap
  refine list_value (s := Instr.range 61 (.map (some blk))) p5.2.2 ?_ hrange ?_
  · obtain ⟨d', op, ty, ps, af, gd⟩ := o5
    have := p5.1
    simp only at this
    subst this
    simp only [execOp, hval]
  obtain ⟨m5, e5⟩ := n4.fresh (.mapIter (some blk) cl #[] cl)
  have hsz5 : (u4.alloc (.mapIter (some blk) cl #[] cl)).heap.size = u4.heap.size + 1 := World.size_alloc ..
  have hit : (u4.alloc (.mapIter (some blk) cl #[] cl)).heap[u4.heap.size]? = some (.mapIter (some blk) cl #[] cl) := heap_alloc_new u4 _
  have hno : ¬ owned γ4 u4.heap.size := by
    rintro ⟨b, o, hb, hp⟩
    have := n4.lies_lt hb hp
    omega
  have r5 : ER [] G (u4.alloc (.mapIter (some blk) cl #[] cl)) γ4 48 [(13, .v (.pointer (some ⟨u4.heap.size, 0, none⟩))), (0, .bp d 0), (1, keep)] (a4.put o5.dst (.pointer (some ⟨u4.heap.size, 0, none⟩))) := by
    have h1 : ER [] G (u4.alloc (.mapIter (some blk) cl #[] cl)) γ4 48 [(12, .mp m), (0, .bp d 0), (1, keep)] a4 := ⟨s4''.sz, s4''.df, fun t => e5.vr (s4''.vr t)⟩
    rw [p5.2.1]
    have h2 := h1.put (d := some 13) (x := .v (.pointer (some ⟨u4.heap.size, 0, none⟩))) (v := .pointer (some ⟨u4.heap.size, 0, none⟩)) rfl (.v _)
    exact h2.pick [13, 0, 1]
  have eAll := ((((e1.trans (f1.weaken fun _ _ => rfl)).trans (f2.weaken fun _ _ => rfl)).trans (f3.weaken fun _ _ => rfl)).trans (f4.weaken fun _ _ => rfl)).trans (e5.weaken fun _ _ => rfl)
  generalize u4.alloc (.mapIter (some blk) cl #[] cl) = u5 at *
  generalize a4.put o5.dst (.pointer (some ⟨u4.heap.size, 0, none⟩)) = a5 at *
  show Code.wp _ _ _ _ _
  rw [c_crBlkE]
  obtain ⟨q1, q2, qe, q3, q4, q5, q6, RC, t3, t4, t5, t6⟩ := rg_cr
  have hbx1 : B [] = bx1 := hB0
  have hBm : ∀ seen, (B seen)[m]? = some (stH cl bs :: wEs ws) := fun seen => by rw [hBne seen m H.ne.2]; exact H.hm
  have hMB : MpBox (wEs ws) bs cl (stH cl bs :: wEs ws) := ⟨rfl, H.lt, H.ok.nd⟩
  refine range_loop (P := Try.prog) (n := 1000) (E := evFn cx0 ext0 1000) (md := md0) (N := 48) (env0 := [(0, .bp d 0), (1, keep)]) (B := B) (r := u4.heap.size) (blk := blk) (β := γ4) (w := u5) (G := G) (ds := []) hE0 RC ⟨by omega, by omega, by omega, by omega⟩ ⟨by omega, by omega, by omega⟩ d_crR4 (by simp) hMB hBm ?_ (by rw [hbx1]; exact m5) r5 hit (by have := n4.sz; omega) hno hβ ?_
  · intro itv seen b k x i hib hei hbs hsub hnd
    unfold wEs at hei
    rw [List.getElem?_map, Option.map_eq_some_iff] at hei
    obtain ⟨q, hqi, hq⟩ := hei
    simp only [AV.tup.injEq, List.cons.injEq, AV.v.injEq, and_true] at hq
    obtain ⟨rfl, rfl⟩ := hq
    have hqm := List.mem_of_getElem? hqi
    obtain ⟨w1', w2', w3', w4', w5'⟩ := H.ok.hw q hqm
    obtain ⟨l1, l2⟩ := layS_len H.ok H.hc hf seen
    obtain ⟨st1, st2⟩ := layS_step H.ok H.hc hf seen hib hqi hbs
    refine ⟨[(5, .gs q.2.1 (q.2.2.length / 64) 64), (4, .v (.int .i64 (q.1 : Int))), (18, .gs q.2.1 (q.2.2.length / 64) 64), (17, .v (.int .i64 (q.1 : Int))), (16, .tup [.v (.int .i64 (q.1 : Int)), .gs q.2.1 (q.2.2.length / 64) 64]), (13, .v itv), (0, .bp d 0), (1, keep)],
      [(0, .bp d 0), (1, keep), (4, .v (.int .i64 (q.1 : Int))), (5, .gs q.2.1 (q.2.2.length / 64) 64), (13, .v itv)], _, ?_, fun t => ?_, F_crR4_eq (evFn cx0 ext0 1000) 1000 (B seen).length (.bp d 0) keep (.v (.int .i64 (q.1 : Int))) (.gs q.2.1 (q.2.2.length / 64) 64) (.v itv) (B seen), ?_⟩
    · simp only [evOps, if_true, wantA, t3.1, t3.2.1, t3.2.2, t4.1, t4.2.1, t4.2.2, t5.1, t5.2.1, t5.2.2, t6.1, t6.2.1, t6.2.2]
      rfl
    · exact get_pick [(5, .gs q.2.1 (q.2.2.length / 64) 64), (4, .v (.int .i64 (q.1 : Int))), (18, .gs q.2.1 (q.2.2.length / 64) 64), (17, .v (.int .i64 (q.1 : Int))), (16, .tup [.v (.int .i64 (q.1 : Int)), .gs q.2.1 (q.2.2.length / 64) 64]), (13, .v itv), (0, .bp d 0), (1, keep)] [0, 1, 4, 5, 13] t
    · refine (crash_round (k0 := 1000) (bx := B seen) (d := d) (s := s) (sn := n) (p := p) (m := .mp m) (w := wv) (by rw [hBne seen d H.ne.1]; exact H.hd) (hBs seen) l2 (H.hk (B seen) (hBne seen)) q.1 w1' q.2.1 (q.2.2.length / 64) q.2.2 (by rw [hBne seen _ w2']; exact w3') (by omega) (by omega) (.v itv)).mono ?_
      rintro ex s' ⟨rfl, hbx, g0, g1, g13⟩
      refine ⟨rfl, ?_, fun t => ?_⟩
      · rw [hbx]
        show _ = bx1.set s (u8l (layS (crBlk ks c) n c bs ws (seen ++ [b])))
        rw [← st1]
        by_cases hk : 0 < keepN ks q.1 (q.2.2.length / 64)
        · have e : crBlk ks c q.1 q.2.2 = bk q.2.2 (keepN ks q.1 (q.2.2.length / 64) - 1) := by unfold crBlk; rw [if_pos hk]
          rw [if_pos hk, e]
          show (bx1.set s _).set s _ = _
          rw [List.set_set]
        · have e : crBlk ks c q.1 q.2.2 = bk c q.1 := by unfold crBlk; rw [if_neg hk]
          rw [if_neg hk, e, ← st2, spl_self l2 w1']
      · have : ((13, AV.v itv) :: [(0, AV.bp d 0), (1, keep)]) = [13, 0, 1].map fun t => (t, get s'.env t) := by simp [g0, g1, g13]
        rw [this]
        exact get_pick _ _ t
  · intro seen a' w' β' hall hnd hsub ex mx rx
    have hall' := layS_all (f := crBlk ks c) (n := n) (c := c) (ws := ws) hall
    have hBseen : B seen = B bs := by show bx1.set s _ = bx1.set s _; rw [hall']
    rw [hBseen] at mx
    have rx' : ER [] G w' β' 48 [(0, .bp d 0)] a' := rx.pick [0]
    have hBm' := hBm bs
    have hBd : (B bs)[d]? = some [p, .bsl s 0 n 64, .mp m, wv] := by rw [hBne bs d H.ne.1]; exact H.hd
    have hlen : bx1.length = (B bs).length := by show _ = (bx1.set s _).length; rw [List.length_set]
    show Code.wp _ _ _ _ _
    refine wp_piece (n0 := bx1.length) (s := ⟨[(0, .bp d 0)], B bs⟩) hE0 d_crP9 (by rw [hlen]; exact Nat.le_refl _) (fun ex s' => ex = .normal ∧ s'.bx = (B bs).set m [stH cl []])
      (F_crP9_eq (evFn cx0 ext0 1000) 1000 bx1.length (.bp d 0) (B bs)) (by
        have fa := (fa_d d).2.1
        have nl : ∀ d : Nat, nilA (.bp d 0) = some (.bp d 0) := fun _ => rfl
        have l2' := ld_d2 hBd
        have cr : crV (B bs) (.mp m) = some (.v (.tuple #[]), (B bs).set m [stH cl []]) := by
          unfold crV clrM
          simp only [hBm', Option.bind_some, stH]
          rfl
        unfold F_crP9
        have stq := (And.intro (nl) (And.intro (fa) (And.intro (l2') (cr))))
        repeat first
          | ((with_reducible apply ends_bind); case h => first | (simp only [stp, stq]; first | done | rfl) | rfl)
          | ((with_reducible apply ends_t); case h => first | rfl | (simp only [stp, stq]; done))
          | ((with_reducible apply ends_f); case h => first | rfl | (simp only [stp, stq]; done))
        exact ends_some ⟨rfl, rfl⟩) mx rx' ?_
    rintro ex9 ⟨env9, bx9⟩ ⟨rfl, hb9⟩ x9 w9 β9 e9 m9 r9
    simp only at hb9
    subst hb9
    obtain ⟨v, g1, g2⟩ := results_ok (P := Try.prog) (fn := Try.f12) m9 r9 (r := []) rfl
    exact ⟨r9.df, v, g1, v, β9, rfl, (eAll.trans (ex.weaken fun _ _ => rfl)).trans e9, m9, g2⟩
end Go.Sy.Pre

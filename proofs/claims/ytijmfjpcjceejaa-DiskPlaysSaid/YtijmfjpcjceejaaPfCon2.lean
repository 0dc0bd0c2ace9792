/-
  Layer 04: what disk.Write and disk.Read do to a disk's boxes.
-/
import Derived.Test.YtijmfjpcjceejaaPfCon
namespace Go.Sy.Pr0
open Go.Proofs

theorem bump_st (cl : Nat) (bs : List Nat) : bump (stH cl bs) = some (stH (cl + 1) (bs ++ [cl])) := by
  simp [stH, bump]
def wadd (ws : Ws) (k : Nat) (b : List UInt8) : Ws := ws.map fun r => if r.1 = k then (r.1, r.2.1, r.2.2 ++ b) else r
theorem wadd_no {k : Nat} {b : List UInt8} : ∀ {ws : Ws}, (∀ r ∈ ws, r.1 ≠ k) → wadd ws k b = ws
  | [], _ => rfl
  | r :: ws, h => by
    show (if r.1 = k then _ else r) :: wadd ws k b = _
    rw [if_neg (h r (by simp)), wadd_no fun x hx => h x (by simp [hx])]
theorem find_no {k : Nat} {ws : Ws} (h : ws.find? (fun q => q.1 == k) = none) : ∀ r ∈ ws, r.1 ≠ k := fun r hr => by
  have := List.find?_eq_none.1 h r hr
  simpa using this
theorem put_w {k : Nat} {b : List UInt8} (hb : b.length = 64) : ∀ {ws : Ws} {q : Wt}, (ws.map (·.1)).Nodup → ws.find? (fun q => q.1 == k) = some q → q.2.2.length % 64 = 0 →
    putL .i64 (k : Int) (.gs q.2.1 (q.2.2.length / 64 + 1) 64) (wEs ws) = some (wEs (wadd ws k b))
  | [], q, _, h, _ => by simp at h
  | r :: ws, q, hn, h, h64 => by
    rw [List.map_cons, List.nodup_cons] at hn
    rw [List.find?_cons] at h
    show putL .i64 (k : Int) _ (.tup [.v (.int .i64 (r.1 : Int)), .gs r.2.1 (r.2.2.length / 64) 64] :: wEs ws) = _
    unfold putL
    simp only [if_true]
    by_cases hk : r.1 = k
    · have h1 : ((k : Int) == (r.1 : Int)) = true := by simp [hk]
      have h2 : (r.1 == k) = true := by simp [hk]
      rw [h2] at h
      simp only [Option.some.injEq] at h
      subst h
      rw [if_pos h1]
      have hno : wadd ws k b = ws := wadd_no fun x hx e => hn.1 (by rw [hk, ← e]; exact List.mem_map.2 ⟨x, hx, rfl⟩)
      show _ = some (wEs ((if r.1 = k then (r.1, r.2.1, r.2.2 ++ b) else r) :: wadd ws k b))
      rw [if_pos hk, hno]
      show _ = some (.tup [.v (.int .i64 (r.1 : Int)), .gs r.2.1 ((r.2.2 ++ b).length / 64) 64] :: wEs ws)
      rw [List.length_append, hb, hk, show (r.2.2.length + 64) / 64 = r.2.2.length / 64 + 1 by omega]
    · have h1 : ((k : Int) == (r.1 : Int)) = false := by simp; omega
      have h2 : (r.1 == k) = false := by simpa using hk
      rw [h2] at h
      rw [if_neg (by rw [h1]; simp), put_w hb hn.2 h h64]
      show _ = some (wEs ((if r.1 = k then (r.1, r.2.1, r.2.2 ++ b) else r) :: wadd ws k b))
      rw [if_neg hk]
      rfl
theorem put_n (k : Nat) (v : AV) : ∀ {ws : Ws}, (∀ r ∈ ws, r.1 ≠ k) → putL .i64 (k : Int) v (wEs ws) = some (wEs ws ++ [.tup [.v (.int .i64 (k : Int)), v]])
  | [], _ => rfl
  | r :: ws, h => by
    show putL .i64 (k : Int) _ (.tup [.v (.int .i64 (r.1 : Int)), .gs r.2.1 (r.2.2.length / 64) 64] :: wEs ws) = _
    unfold putL
    have := h r (by simp)
    have h1 : ((k : Int) == (r.1 : Int)) = false := by simp; omega
    simp only [if_true]
    rw [if_neg (by rw [h1]; simp), put_n k v fun x hx => h x (by simp [hx])]
    rfl
theorem up_w {bx : Bx} {m cl : Nat} {bs : List Nat} {ws : Ws} (hm : bx[m]? = some (stH cl bs :: wEs ws)) {k : Nat} {b : List UInt8} (hb : b.length = 64) {q : Wt} (hn : (ws.map (·.1)).Nodup) (hf : ws.find? (fun q => q.1 == k) = some q) (h64 : q.2.2.length % 64 = 0) :
    upV Try.prog 61 bx (.mp m) (.v (.int .i64 (k : Int))) (.gs q.2.1 (q.2.2.length / 64 + 1) 64) = some (.v undef, bx.set m (stH cl bs :: wEs (wadd ws k b))) := by
  unfold upV updA
  simp only [mp_w.1, Option.bind_some, mp_w.2, if_true, hm, updL, put_w hb hn hf h64]
  rw [if_pos (by simp [wEs, wadd])]
  rfl
theorem up_n {bx : Bx} {m cl : Nat} {bs : List Nat} {ws : Ws} (hm : bx[m]? = some (stH cl bs :: wEs ws)) {k nb : Nat} {b : List UInt8} (hb : b.length = 64) (hf : ws.find? (fun q => q.1 == k) = none) :
    upV Try.prog 61 bx (.mp m) (.v (.int .i64 (k : Int))) (.gs nb 1 64) = some (.v undef, bx.set m (stH (cl + 1) (bs ++ [cl]) :: wEs (ws ++ [(k, nb, b)]))) := by
  unfold upV updA
  simp only [mp_w.1, Option.bind_some, mp_w.2, if_true, hm, updL, put_n k _ (find_no hf)]
  rw [if_neg (by simp), bump_st]
  have : wEs ws ++ [.tup [.v (.int .i64 (k : Int)), .gs nb 1 64]] = wEs (ws ++ [(k, nb, b)]) := by
    simp [wEs, hb]
  rw [this]
  rfl
theorem mk_b1 (bx : Bx) {b : List UInt8} (hb : b.length = 64) : buildSliceA Try.prog bx 35 1 [(0, .agg (u8l b))] = some (.bsl bx.length 0 1 64, bx ++ [u8l b]) := by
  have hz : zerosA Try.prog 32 1 = some (u8l (List.replicate 64 0)) := by kernel_rfl
  unfold buildSliceA
  simp only [el_bl.1, if_true, el_bl.2.1, el_bl.2.2, Option.bind_some, hz]
  rw [if_neg (by omega)]
  simp only [fillA]
  rw [if_pos ⟨rfl, by simp [AV.cells, u8l_len, hb], by rw [u8l_len]; simp⟩]
  simp only [Option.map_some, newBox]
  show some (AV.bsl bx.length 0 1 64, bx ++ [storeL (u8l (List.replicate 64 0)) (0 * 64) (u8l b)]) = _
  rw [storeL_eq _ _ _ (by simp only [u8l_len, hb]; simp), u8l_take, u8l_drop, u8l_app, u8l_app, u8l_len, hb]
  simp
theorem isV_u8l (b : List UInt8) : (u8l b).all isV = true := by
  induction b with
  | nil => rfl
  | cons x b ih => exact ih
theorem rd_1 {bx : Bx} {t : Nat} {b : List UInt8} (ht : bx[t]? = some (u8l b)) (hb : b.length = 64) : readA bx (.bsl t 0 1 64) = some (1, u8l b) := by
  unfold readA
  simp only [ht, Option.map_some, List.drop_zero]
  rw [List.take_of_length_le (by rw [u8l_len]; omega)]
theorem ap_gs {bx : Bx} {n0 c t : Nat} {e b : List UInt8} (hc : bx[c]? = some (u8l e)) (he : e.length % 64 = 0) (hbig : e.length < 2 ^ 32) (ht : bx[t]? = some (u8l b)) (hb : b.length = 64) :
    appA Try.prog n0 bx 35 (.gs c (e.length / 64) 64) (.bsl t 0 1 64) = some (.gs c (e.length / 64 + 1) 64, fun x => x, bx.set c (u8l (e ++ b))) := by
  unfold appA
  simp only [el_bl.1, if_true, el_bl.2.1, el_bl.2.2, by_bl, zc_bl, Option.bind_some, rd_1 ht hb]
  rw [if_pos ⟨by rw [u8l_len, hb], by omega, by simp [u8l_len], by omega, by omega, by omega⟩]
  simp only [hc, Option.bind_some]
  rw [if_pos ⟨by rw [u8l_len]; omega, trivial, by omega, isV_u8l b⟩, u8l_app]
theorem ap_nil {bx : Bx} {n0 t : Nat} {b : List UInt8} (ht : bx[t]? = some (u8l b)) (hb : b.length = 64) :
    appA Try.prog n0 bx 35 (.v (.slice none 0 0)) (.bsl t 0 1 64) = some (.gs bx.length 1 64, fun x => x, bx ++ [u8l b]) := by
  unfold appA
  simp only [el_bl.1, if_true, el_bl.2.1, el_bl.2.2, by_bl, zc_bl, Option.bind_some, rd_1 ht hb]
  rw [if_pos ⟨by rw [u8l_len, hb], by omega, by simp [u8l_len], by omega, by omega, by omega⟩, if_neg (by omega), if_pos ⟨trivial, isV_u8l b⟩]
theorem wl_add {ws : Ws} {k : Nat} {b : List UInt8} {q : Wt} (hf : ws.find? (fun q => q.1 == k) = some q) (j : Nat) : wl (wadd ws k b) j = if j = k then wl ws k ++ b else wl ws j := by
  have h : ∀ (j : Nat) (l : Ws), (wadd l k b).find? (fun q => q.1 == j) = (l.find? (fun q => q.1 == j)).map fun r => if r.1 = k then (r.1, r.2.1, r.2.2 ++ b) else r := by
    intro j l
    induction l with
    | nil => rfl
    | cons r l ih =>
      show ((if r.1 = k then (r.1, r.2.1, r.2.2 ++ b) else r) :: wadd l k b).find? _ = _
      rw [List.find?_cons, List.find?_cons, ih]
      have : (if r.1 = k then (r.1, r.2.1, r.2.2 ++ b) else r).1 = r.1 := by split <;> rfl
      rw [this]
      cases r.1 == j <;> rfl
  unfold wl
  rw [h]
  split
  · rename_i q' hq
    rw [Option.map_eq_some_iff] at hq
    obtain ⟨r, hr, rfl⟩ := hq
    have hrj := (find_some hr).2
    by_cases e : j = k
    · subst e
      rw [if_pos hrj, if_pos rfl, hr]
    · rw [if_neg (by omega), if_neg e, hr]
  · rename_i hq
    rw [Option.map_eq_none_iff] at hq
    by_cases e : j = k
    · subst e
      rw [hf] at hq
      cases hq
    · rw [if_neg e, hq]
theorem wl_new {ws : Ws} {k nb : Nat} {b : List UInt8} (hf : ws.find? (fun q => q.1 == k) = none) (j : Nat) : wl (ws ++ [(k, nb, b)]) j = if j = k then wl ws k ++ b else wl ws j := by
  unfold wl
  rw [List.find?_append]
  by_cases e : j = k
  · subst e
    rw [if_pos rfl, hf]
    simp
  · rw [if_neg e]
    have : [(k, nb, b)].find? (fun q => q.1 == j) = none := by
      rw [List.find?_cons]
      have : (k == j) = false := by simp; omega
      simp [this]
    rw [this, Option.or_none]
/-- boxes of which each cell is looked at by '==' -/
def Good (bx : Bx) : Prop := ∀ l ∈ bx, eqCs l l = true
theorem Good.app {bx t : Bx} (h : Good bx) (ht : Good t) : Good (bx ++ t) := fun l hl => (List.mem_append.1 hl).elim (h l) (ht l)
theorem Good.set {bx : Bx} (h : Good bx) {l : List AV} (hl : eqCs l l = true) (i : Nat) : Good (bx.set i l) := fun m hm => by
  rcases List.mem_or_eq_of_mem_set hm with h1 | h1
  · exact h m h1
  · subst h1; exact hl
theorem Good.b1 (b : List UInt8) : Good [u8l b] := fun l hl => by simp at hl; subst hl; exact eqCs_u8l b
theorem eqCs_app : ∀ {a b : List AV}, eqCs a a = true → eqCs b b = true → eqCs (a ++ b) (a ++ b) = true
  | [], b, _, hb => hb
  | x :: a, b, ha, hb => by
    simp only [eqCs, Bool.and_eq_true] at ha
    simp only [List.cons_append, eqCs, Bool.and_eq_true]
    exact ⟨ha.1, eqCs_app ha.2 hb⟩
theorem eqDs_ints : ∀ l : List Nat, eqDs (l.map fun (n : Nat) => .v (.int .i64 (n : Int))) (l.map fun (n : Nat) => .v (.int .i64 (n : Int))) = true
  | [] => rfl
  | n :: l => by
    simp only [List.map_cons, eqDs, eqD, eqV, eqDs_ints l, decide_true, beq_self_eq_true, Bool.and_self]
theorem eqCs_map (cl : Nat) (bs : List Nat) (ws : Ws) : eqCs (stH cl bs :: wEs ws) (stH cl bs :: wEs ws) = true := by
  have h1 : eqC (stH cl bs) (stH cl bs) = true := by
    show eqDs (_ :: _) (_ :: _) = true
    simp only [eqDs, eqD, eqV, eqDs_ints bs, decide_true, beq_self_eq_true, Bool.and_self]
  have h2 : ∀ ws : Ws, eqCs (wEs ws) (wEs ws) = true := by
    intro ws
    induction ws with
    | nil => rfl
    | cons q ws ih =>
      show eqCs (.tup [.v (.int .i64 (q.1 : Int)), .gs q.2.1 (q.2.2.length / 64) 64] :: wEs ws) (.tup [.v (.int .i64 (q.1 : Int)), .gs q.2.1 (q.2.2.length / 64) 64] :: wEs ws) = true
      simp only [eqCs, eqC, eqDs, eqD, eqV, ih, decide_true, beq_self_eq_true, Bool.and_self]
  simp only [eqCs, h1, h2 ws, Bool.and_self]
theorem eqCs_d {p : AV} (hp : eqC p p = true) (s n m : Nat) (z : Int) : eqCs [p, .bsl s 0 n 64, .mp m, .v (.int .i64 z)] [p, .bsl s 0 n 64, .mp m, .v (.int .i64 z)] = true := by
  simp only [eqCs, hp]
  simp [eqC, eqD, eqV]
theorem DB.gp {O : Nat → Prop} {bx : Bx} {d s n m cl : Nat} {p : AV} {z : Int} {c : List UInt8} {bs : List Nat} {ws : Ws} (D : DB O bx d s n m cl p z c bs ws) (hg : Good bx) : eqC p p = true := by
  have := hg _ (List.mem_of_getElem? D.hd)
  simp only [eqCs, Bool.and_eq_true] at this
  exact this.1
theorem write_core (k : Nat) {O : Nat → Prop} {bx bx1 : Bx} {d s n m cl : Nat} {p : AV} {z : Int} {c : List UInt8} {bs : List Nat} {ws : Ws} {i : Nat} (hi : i < n) {b : List UInt8} (hb : b.length = 64)
    (hu : evFn cx0 ext0 (k + 2) 25 [.bp d 0, .v (.int .i64 i)] (bx ++ [u8l b]) = some (.v (.int .i64 0), bx1)) (D : DB O bx1 d s n m cl p z c bs ws) (ht : bx1[bx.length]? = some (u8l b)) (htO : ¬ O bx.length)
    (hbig : (wl ws i).length < 2 ^ 31) :
    ∃ (bx' : Bx) (O' : Nat → Prop) (cl' : Nat) (bs' : List Nat) (ws' : Ws), evFn cx0 ext0 (k + 3) 8 [.bp d 0, .v (.int .i64 i), .agg (u8l b)] bx = some (.v (.int .i64 0), bx') ∧
      DB O' bx' d s n m cl' p (IntKind.i64.wrap (z + 1)) c bs' ws' ∧ (∀ j, wl ws' j = if j = i then wl ws i ++ b else wl ws j) ∧ (∀ j, O j → O' j) ∧ (∀ j, O' j → O j ∨ (bx1.length ≤ j ∧ j < bx'.length)) ∧
      (∀ j, j < bx1.length → ¬ O j → bx'[j]? = bx1[j]?) ∧ bx1.length ≤ bx'.length ∧ (Good bx1 → Good bx') := by
  have htl : bx.length < bx1.length := (List.getElem?_eq_some_iff.1 ht).1
  have cu : callA (evFn cx0 ext0 (k + 2)) md_disk_Disk_Write (bx ++ [u8l b]) 25 [.bp d 0, .v (.int .i64 i)] = some (.v (.int .i64 0), bx1) := by rw [call_k rfl]; exact hu
  have hbx := box_agg bx (u8l b)
  have g0 : ((0 : Int) == 0) = true := rfl
  have nl : nilA (.bp d 0) = some (.bp d 0) := rfl
  have fa := fa_d d
  have l2 := ld_d2 D.hd
  have lk := look_w D.hm i
  have lb : loadA Try.prog 32 bx1 (.bp bx.length 0) = some (.agg (u8l b)) := ld_a hB ht hb
  have ap1 : apartV (.bp bx1.length 0) (.bp d 2) = true := by have := D.dlt; simp [apartV]; omega
  have ap2 : apartV (.bp bx1.length 0) (.mp m) = true := by have := D.mlt; simp [apartV]; omega
  have mk := mk_b1 bx1 hb
  obtain ⟨bx2, hb2⟩ : ∃ x, x = bx1 ++ [u8l b] := ⟨_, rfl⟩
  rw [← hb2] at mk
  have hold : ∀ {i : Nat} {l : List AV}, bx1[i]? = some l → bx2[i]? = some l := fun {i l} h => by rw [hb2, List.getElem?_append_left (List.getElem?_eq_some_iff.1 h).1]; exact h
  have hnew : bx2[bx1.length]? = some (u8l b) := by rw [hb2]; simp
  have hlen2 : bx2.length = bx1.length + 1 := by rw [hb2]; simp
  cases hf : ws.find? (fun q => q.1 == i) with
  | some q =>
    rw [hf] at lk
    obtain ⟨hq, hk⟩ := find_some hf
    obtain ⟨w1, w2, w3, w4, w5, w6, w7, w8, w9⟩ := D.hw q hq
    have hwl : wl ws i = q.2.2 := by unfold wl; rw [hf]
    have hqt : q.2.1 ≠ bx1.length := by have := (List.getElem?_eq_some_iff.1 w2).1; omega
    have ap := ap_gs (n0 := bx.length) (hold w2) w3 w5 hnew hb
    obtain ⟨bx3, hb3⟩ : ∃ x, x = bx2.set q.2.1 (u8l (q.2.2 ++ b)) := ⟨_, rfl⟩
    rw [← hb3] at ap
    have h3 : ∀ i, i ≠ q.2.1 → bx3[i]? = bx2[i]? := fun i hi => by rw [hb3, List.getElem?_set_ne (Ne.symm hi)]
    have hm3 : bx3[m]? = some (stH cl bs :: wEs ws) := by rw [h3 m (Ne.symm w9)]; exact hold D.hm
    have up := up_w hm3 hb D.kn hf w3
    obtain ⟨bx4, hb4⟩ : ∃ x, x = bx3.set m (stH cl bs :: wEs (wadd ws i b)) := ⟨_, rfl⟩
    rw [← hb4] at up
    have h4 : ∀ i, i ≠ m → bx4[i]? = bx3[i]? := fun i hi => by rw [hb4, List.getElem?_set_ne (Ne.symm hi)]
    have hd4 : bx4[d]? = some [p, .bsl s 0 n 64, .mp m, .v (.int .i64 z)] := by rw [h4 d D.ne.2.1, h3 d (Ne.symm w7)]; exact hold D.hd
    have l3 := ld_d3 hd4
    have st := st_d3 (z' := IntKind.i64.wrap (z + 1)) hd4
    obtain ⟨bx5, hb5⟩ : ∃ x, x = bx4.set d [p, .bsl s 0 n 64, .mp m, .v (.int .i64 (IntKind.i64.wrap (z + 1)))] := ⟨_, rfl⟩
    rw [← hb5] at st
    have h5 : ∀ i, i ≠ d → bx5[i]? = bx4[i]? := fun i hi => by rw [hb5, List.getElem?_set_ne (Ne.symm hi)]
    have hl3 : bx3.length = bx2.length := by rw [hb3, List.length_set]
    have hl4 : bx4.length = bx3.length := by rw [hb4, List.length_set]
    have hl5 : bx5.length = bx4.length := by rw [hb5, List.length_set]
    refine ⟨bx5, O, cl, bs, wadd ws i b, ?_, ⟨?_, ?_, D.hc, ?_, D.lt, D.nd, by rw [D.ln]; simp [wadd], ?_, ?_, ?_, D.ne, D.od⟩, wl_add hf, fun _ h => h, fun _ h => .inl h, ?_, by omega, fun hg => ?_⟩
    · rw [E_disk_Disk_Write]
      refine ends_fin (P := Try.prog) ?_
      unfold F_disk_Disk_Write
      have ap3 : apartV (apAd bx2 (.gs q.2.1 (q.2.2.length / 64) 64)) (.bp d 2) = true := by simp [apartV, apAd]; omega
      have fr : ∀ v, freeA (.gs q.2.1 (q.2.2.length / 64) 64) v = true := fun v => rfl
      have stq := (And.intro (hbx) (And.intro (cu) (And.intro (g0) (And.intro (nl) (And.intro (fa) (And.intro (l2) (And.intro (lk) (And.intro (lb) (And.intro (ap1) (And.intro (ap2) (And.intro (mk) (And.intro (ap3) (And.intro (ap) (And.intro (fr) (And.intro (up) (And.intro (l3) (st)))))))))))))))))
      repeat first
        | ((with_reducible apply ends_bind); case h => first | (simp only [stp, stq]; first | done | rfl) | rfl)
        | ((with_reducible apply ends_t); case h => first | rfl | (simp only [stp, stq]; done))
        | ((with_reducible apply ends_f); case h => first | rfl | (simp only [stp, stq]; done))
      exact ends_some ⟨.inl rfl, _, rfl, rfl⟩
    · rw [hb5, List.getElem?_set_self (by have := D.dlt; omega)]
    · rw [h5 s (Ne.symm D.ne.1), h4 s (Ne.symm D.ne.2.2), h3 s (Ne.symm w8)]; exact hold D.hs
    · rw [h5 m (Ne.symm D.ne.2.1), hb4, List.getElem?_set_self (by have := D.mlt; omega)]
    · intro r hr
      obtain ⟨r0, hr0, rfl⟩ := List.mem_map.1 hr
      obtain ⟨u1, u2, u3, u4, u5, u6, u7, u8, u9⟩ := D.hw r0 hr0
      split
      · rename_i hri
        have : r0 = q := by
          obtain ⟨j1, hj1⟩ := List.getElem?_of_mem hr0
          obtain ⟨j2, hj2⟩ := List.getElem?_of_mem hq
          have : j1 = j2 := (List.getElem?_inj (by simpa using (List.getElem?_eq_some_iff.1 hj1).1) D.kn).1 (by rw [List.getElem?_map, List.getElem?_map, hj1, hj2]; simp [hri, hk])
          subst this
          rw [hj1] at hj2
          exact Option.some.inj hj2
        subst this
        refine ⟨u1, ?_, by simp only [List.length_append]; omega, by simp only [List.length_append]; omega, by simp only [List.length_append]; rw [hwl] at hbig; omega, u6, u7, u8, u9⟩
        show bx5[r0.2.1]? = _
        rw [h5 _ u7, h4 _ u9, hb3, List.getElem?_set_self (by have := (List.getElem?_eq_some_iff.1 (hold w2)).1; omega)]
      · rename_i hri
        refine ⟨u1, ?_, u3, u4, u5, u6, u7, u8, u9⟩
        have hne : r0.2.1 ≠ q.2.1 := by
          intro e
          obtain ⟨j1, hj1⟩ := List.getElem?_of_mem hr0
          obtain ⟨j2, hj2⟩ := List.getElem?_of_mem hq
          have : j1 = j2 := (List.getElem?_inj (by simpa using (List.getElem?_eq_some_iff.1 hj1).1) D.bn).1 (by rw [List.getElem?_map, List.getElem?_map, hj1, hj2]; simp [e])
          subst this
          rw [hj1] at hj2
          cases Option.some.inj hj2
          exact hri hk
        rw [h5 _ u7, h4 _ u9, h3 _ hne]
        exact hold u2
    · have : (wadd ws i b).map (·.1) = ws.map (·.1) := by
        simp only [wadd, List.map_map]
        exact List.map_congr_left fun r _ => by simp only [Function.comp]; split <;> rfl
      rw [this]; exact D.kn
    · have : (wadd ws i b).map (·.2.1) = ws.map (·.2.1) := by
        simp only [wadd, List.map_map]
        exact List.map_congr_left fun r _ => by simp only [Function.comp]; split <;> rfl
      rw [this]; exact D.bn
    · intro j hj hO
      have n1 : j ≠ d := fun e => hO (e ▸ D.od.1)
      have n2 : j ≠ m := fun e => hO (e ▸ D.od.2.2)
      have n3 : j ≠ q.2.1 := fun e => hO (e ▸ w6)
      rw [h5 j n1, h4 j n2, h3 j n3, hb2, List.getElem?_append_left hj]
    · rw [hb5, hb4, hb3, hb2]
      exact ((((hg.app (Good.b1 b)).set (eqCs_u8l _) _).set (eqCs_map _ _ _) _).set (eqCs_d (D.gp hg) _ _ _ _) _)
  | none =>
    rw [hf] at lk
    have hwl : wl ws i = [] := by unfold wl; rw [hf]
    have hno := find_no hf
    have ap := ap_nil (n0 := bx.length) hnew hb
    obtain ⟨bx3, hb3⟩ : ∃ x, x = bx2 ++ [u8l b] := ⟨_, rfl⟩
    rw [← hb3] at ap
    have h3 : ∀ {i : Nat} {l : List AV}, bx2[i]? = some l → bx3[i]? = some l := fun {i l} h => by rw [hb3, List.getElem?_append_left (List.getElem?_eq_some_iff.1 h).1]; exact h
    have hm3 : bx3[m]? = some (stH cl bs :: wEs ws) := h3 (hold D.hm)
    have up := up_n (nb := bx2.length) hm3 hb hf
    obtain ⟨bx4, hb4⟩ : ∃ x, x = bx3.set m (stH (cl + 1) (bs ++ [cl]) :: wEs (ws ++ [(i, bx2.length, b)])) := ⟨_, rfl⟩
    rw [← hb4] at up
    have h4 : ∀ i, i ≠ m → bx4[i]? = bx3[i]? := fun i hi => by rw [hb4, List.getElem?_set_ne (Ne.symm hi)]
    have hd4 : bx4[d]? = some [p, .bsl s 0 n 64, .mp m, .v (.int .i64 z)] := by rw [h4 d D.ne.2.1]; exact h3 (hold D.hd)
    have l3 := ld_d3 hd4
    have st := st_d3 (z' := IntKind.i64.wrap (z + 1)) hd4
    obtain ⟨bx5, hb5⟩ : ∃ x, x = bx4.set d [p, .bsl s 0 n 64, .mp m, .v (.int .i64 (IntKind.i64.wrap (z + 1)))] := ⟨_, rfl⟩
    rw [← hb5] at st
    have h5 : ∀ i, i ≠ d → bx5[i]? = bx4[i]? := fun i hi => by rw [hb5, List.getElem?_set_ne (Ne.symm hi)]
    have hl3 : bx3.length = bx2.length + 1 := by rw [hb3]; simp
    have hl4 : bx4.length = bx3.length := by rw [hb4, List.length_set]
    have hl5 : bx5.length = bx4.length := by rw [hb5, List.length_set]
    refine ⟨bx5, fun j => O j ∨ j = bx2.length, cl + 1, bs ++ [cl], ws ++ [(i, bx2.length, b)], ?_, ⟨?_, ?_, D.hc, ?_, ?_, ?_, by simp [D.ln], ?_, ?_, ?_, D.ne, ⟨.inl D.od.1, .inl D.od.2.1, .inl D.od.2.2⟩⟩, wl_new hf, fun _ h => .inl h, fun j h => h.imp id fun e => ⟨by omega, by omega⟩, ?_, by omega, fun hg => ?_⟩
    · rw [E_disk_Disk_Write]
      refine ends_fin (P := Try.prog) ?_
      unfold F_disk_Disk_Write
      have ap3 : apartV (apAd bx2 (.v (.slice none 0 0))) (.bp d 2) = true := by have := D.dlt; simp [apartV, apAd]; omega
      have fr : ∀ v, freeA (.v (.slice none 0 0)) v = true := fun v => rfl
      have stq := (And.intro (hbx) (And.intro (cu) (And.intro (g0) (And.intro (nl) (And.intro (fa) (And.intro (l2) (And.intro (lk) (And.intro (lb) (And.intro (ap1) (And.intro (ap2) (And.intro (mk) (And.intro (ap3) (And.intro (ap) (And.intro (fr) (And.intro (up) (And.intro (l3) (st)))))))))))))))))
      repeat first
        | ((with_reducible apply ends_bind); case h => first | (simp only [stp, stq]; first | done | rfl) | rfl)
        | ((with_reducible apply ends_t); case h => first | rfl | (simp only [stp, stq]; done))
        | ((with_reducible apply ends_f); case h => first | rfl | (simp only [stp, stq]; done))
      exact ends_some ⟨.inl rfl, _, rfl, rfl⟩
    · rw [hb5, List.getElem?_set_self (by have := D.dlt; omega)]
    · rw [h5 s (Ne.symm D.ne.1), h4 s (Ne.symm D.ne.2.2)]; exact h3 (hold D.hs)
    · rw [h5 m (Ne.symm D.ne.2.1), hb4, List.getElem?_set_self (by have := D.mlt; omega)]
    · intro x hx
      rcases List.mem_append.1 hx with hx | hx
      · have := D.lt x hx; omega
      · simp at hx; omega
    · rw [List.nodup_append]
      refine ⟨D.nd, by simp, fun x hx y hy => ?_⟩
      simp at hy
      have := D.lt x hx
      omega
    · intro r hr
      rcases List.mem_append.1 hr with hr | hr
      · obtain ⟨u1, u2, u3, u4, u5, u6, u7, u8, u9⟩ := D.hw r hr
        exact ⟨u1, by rw [h5 _ u7, h4 _ u9]; exact h3 (hold u2), u3, u4, u5, .inl u6, u7, u8, u9⟩
      · simp only [List.mem_singleton] at hr
        subst hr
        have e1 : bx2.length ≠ d := by have := D.dlt; omega
        have e2 : bx2.length ≠ m := by have := D.mlt; omega
        have e3 : bx2.length ≠ s := by have := D.slt; omega
        exact ⟨hi, by show bx5[bx2.length]? = _; rw [h5 _ e1, h4 _ e2, hb3]; simp, by simp [hb], by simp [hb], by simp [hb], .inr rfl, e1, e3, e2⟩
    · rw [List.map_append, List.nodup_append]
      refine ⟨D.kn, by simp, fun x hx y hy => ?_⟩
      simp at hy
      obtain ⟨r, hr, rfl⟩ := List.mem_map.1 hx
      have := hno r hr
      omega
    · rw [List.map_append, List.nodup_append]
      refine ⟨D.bn, by simp, fun x hx y hy => ?_⟩
      simp at hy
      obtain ⟨r, hr, rfl⟩ := List.mem_map.1 hx
      have := (List.getElem?_eq_some_iff.1 (D.hw r hr).2.1).1
      omega
    · intro j hj hO
      have n1 : j ≠ d := fun e => hO (e ▸ D.od.1)
      have n2 : j ≠ m := fun e => hO (e ▸ D.od.2.2)
      rw [h5 j n1, h4 j n2, hb3, List.getElem?_append_left (by omega), hb2, List.getElem?_append_left hj]
    · rw [hb5, hb4, hb3, hb2]
      exact ((((hg.app (Good.b1 b)).app (Good.b1 b)).set (eqCs_map _ _ _) _).set (eqCs_d (D.gp hg) _ _ _ _) _)
end Go.Sy.Pr0

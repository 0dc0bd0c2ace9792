/-
  Layer 04: what disk.Write, disk.Read and disk.Waits do, where the supply is none. Layer 04: what disk's functions do, where there is a supply. Layer 04: what disk.New, Image, Load, Len and Writes do.
-/
import Derived.Test.YtijmfjpcjceejaaPfCon2
namespace Go.Sy.Pr0
open Go.Proofs

theorem DB.app {O : Nat → Prop} {bx : Bx} {d s n m cl : Nat} {p : AV} {z : Int} {c : List UInt8} {bs : List Nat} {ws : Ws} (D : DB O bx d s n m cl p z c bs ws) (t : Bx) : DB O (bx ++ t) d s n m cl p z c bs ws := by
  have h : ∀ {i : Nat} {l : List AV}, bx[i]? = some l → (bx ++ t)[i]? = some l := fun {i l} h => by rw [List.getElem?_append_left (List.getElem?_eq_some_iff.1 h).1]; exact h
  exact ⟨h D.hd, h D.hs, D.hc, h D.hm, D.lt, D.nd, D.ln, fun q hq => by obtain ⟨h1, h2, h3⟩ := D.hw q hq; exact ⟨h1, h h2, h3⟩, D.kn, D.bn, D.ne, D.od⟩
/-- boxes that are not the disk's are others -/
theorem DB.frame {O : Nat → Prop} {bx bx' : Bx} {d s n m cl : Nat} {p : AV} {z : Int} {c : List UInt8} {bs : List Nat} {ws : Ws} (D : DB O bx d s n m cl p z c bs ws) (h : ∀ i, O i → i < bx.length → bx'[i]? = bx[i]?) : DB O bx' d s n m cl p z c bs ws := by
  have g : ∀ {i : Nat} {l : List AV}, O i → bx[i]? = some l → bx'[i]? = some l := fun {i l} ho hl => by rw [h i ho (List.getElem?_eq_some_iff.1 hl).1]; exact hl
  exact ⟨g D.od.1 D.hd, g D.od.2.1 D.hs, D.hc, g D.od.2.2 D.hm, D.lt, D.nd, D.ln, fun q hq => by obtain ⟨h1, h2, h3, h4, h5, h6, h7⟩ := D.hw q hq; exact ⟨h1, g h6 h2, h3, h4, h5, h6, h7⟩, D.kn, D.bn, D.ne, D.od⟩
theorem write_nil (k : Nat) {O : Nat → Prop} {bx : Bx} {d s n m cl : Nat} {z : Int} {c : List UInt8} {bs : List Nat} {ws : Ws} (D : DB O bx d s n m cl nilP z c bs ws) (hO : ∀ j, O j → j < bx.length) {i : Nat} (hi : i < n) {b : List UInt8} (hb : b.length = 64)
    (hbig : (wl ws i).length < 2 ^ 31) :
    ∃ (bx' : Bx) (O' : Nat → Prop) (cl' : Nat) (bs' : List Nat) (ws' : Ws), evFn cx0 ext0 (k + 3) 8 [.bp d 0, .v (.int .i64 i), .agg (u8l b)] bx = some (.v (.int .i64 0), bx') ∧
      DB O' bx' d s n m cl' nilP (IntKind.i64.wrap (z + 1)) c bs' ws' ∧ (∀ j, wl ws' j = if j = i then wl ws i ++ b else wl ws j) ∧ (∀ j, O j → O' j) ∧ (∀ j, O' j → O j ∨ bx.length ≤ j) ∧ (∀ j, O' j → j < bx'.length) ∧
      (∀ j, j < bx.length → ¬ O j → bx'[j]? = bx[j]?) ∧ bx.length ≤ bx'.length ∧ (Good bx → Good bx') := by
  have D1 := D.app [u8l b]
  have hu := use_ev k D1.hd i D1.slt
  rw [if_pos (by omega)] at hu
  obtain ⟨bx', O', cl', bs', ws', h1, h2, h3, h4, h5, h6, h7, h8⟩ := write_core k hi hb hu D1 (by simp) (fun h => by have := hO _ h; omega) hbig
  rw [List.length_append] at h5 h7
  refine ⟨bx', O', cl', bs', ws', h1, h2, h3, h4, fun j hj => (h5 j hj).imp id fun h => by have := h.1; simp at this; omega, fun j hj => ?_, fun j hj ho => ?_, by simp at h7; omega, fun hg => h8 (hg.app (Good.b1 b))⟩
  · rcases h5 j hj with h | h
    · have := hO j h; simp at h7; omega
    · exact h.2
  · rw [h6 j (by simp; omega) ho, List.getElem?_append_left hj]
theorem read_ev (k : Nat) {O : Nat → Prop} {bx : Bx} {d s n m cl : Nat} {p : AV} {z : Int} {c : List UInt8} {bs : List Nat} {ws : Ws} (D : DB O bx d s n m cl p z c bs ws) (i : Nat) (hi : i < n) :
    ∃ t : Bx, evFn cx0 ext0 (k + 2) 11 [.bp d 0, .v (.int .i64 i)] bx = some (.tup [.agg (u8l (shw c ws i)), .v (.int .i64 0)], bx ++ t) ∧ Good t := by
  obtain ⟨bx1, hb1⟩ : ∃ x, x = bx ++ [u8l (List.replicate 64 0)] := ⟨_, rfl⟩
  have al : allocA Try.prog bx 32 = some (.bp bx.length 0, bx1) := by rw [hb1]; exact al_a hB bx
  have D1 : DB O bx1 d s n m cl p z c bs ws := by rw [hb1]; exact D.app _
  have hm := mayc k (md := md_disk_Disk_Read) rfl D1.hd i D1.slt
  rw [if_pos (by omega)] at hm
  have g : ((0 : Int) != 0) = false := rfl
  have hl : (shw c ws i).length = 64 := by
    unfold shw
    split
    · rename_i h
      unfold wl at h ⊢
      split
      · rename_i q hf
        rw [hf] at h
        obtain ⟨hq, _⟩ := find_some hf
        obtain ⟨w1, w2, w3, w4, w5⟩ := D.hw q hq
        exact bk_len (n := q.2.2.length / 64) (by omega) (by omega)
      · rename_i hf
        rw [hf] at h
        simp at h
    · exact bk_len hi D.hc
  have sh : callA (evFn cx0 ext0 (k + 1)) md_disk_Disk_Read bx1 26 [.bp d 0, .v (.int .i64 i)] = some (.agg (u8l (shw c ws i)), bx1 ++ [u8l (shw c ws i)]) := by
    rw [call_k rfl]
    exact shows_ev k D1 i hi
  have hz : (bx1 ++ [u8l (shw c ws i)])[bx.length]? = some (u8l (List.replicate 64 0)) := by rw [hb1]; simp
  have st := st_a hB hz (by simp) hl
  have hset : (bx1 ++ [u8l (shw c ws i)]).set bx.length (u8l (shw c ws i)) = bx ++ [u8l (shw c ws i), u8l (shw c ws i)] := by rw [hb1]; simp
  rw [hset] at st
  refine ⟨[u8l (shw c ws i), u8l (shw c ws i)], ?_, (Good.b1 _).app (Good.b1 _)⟩
  rw [E_disk_Disk_Read]
  refine ends_fin (P := Try.prog) ?_
  unfold F_disk_Disk_Read
  have ld : loadA Try.prog 32 (bx ++ [u8l (shw c ws i), u8l (shw c ws i)]) (.bp bx.length 0) = some (.agg (u8l (shw c ws i))) := ld_a hB (by simp) hl
  have stq := (And.intro (al) (And.intro (hm) (And.intro (g) (And.intro (sh) (st)))))
  repeat first
    | ((with_reducible apply ends_bind); case h => first | (simp only [stp, stq]; first | done | rfl) | rfl)
    | ((with_reducible apply ends_t); case h => first | rfl | (simp only [stp, stq]; done))
    | ((with_reducible apply ends_f); case h => first | rfl | (simp only [stp, stq]; done))
  exact ends_some ⟨.inl rfl, [.agg (u8l (shw c ws i)), .v (.int .i64 0)], by
    simp only [resL, get]
    exact congrArg (Option.bind · _) ld, rfl⟩
theorem waits_ev (k : Nat) {O : Nat → Prop} {bx : Bx} {d s n m cl : Nat} {p : AV} {z : Int} {c : List UInt8} {bs : List Nat} {ws : Ws} (D : DB O bx d s n m cl p z c bs ws) (i : Nat) (hi : i < n) :
    evFn cx0 ext0 (k + 2) 13 [.bp d 0, .v (.int .i64 i)] bx = some (.v (.int .i64 ((wl ws i).length / 64 : Nat)), bx) := by
  have hm := mayc k (md := md0) rfl D.hd i D.slt
  rw [if_pos (by omega)] at hm
  have g : ((0 : Int) != 0) = false := rfl
  have nl : nilA (.bp d 0) = some (.bp d 0) := rfl
  have fa := fa_d d
  have l2 := ld_d2 D.hd
  have lk := look_w D.hm i
  rw [E_disk_Disk_Waits]
  refine ends_fin (P := Try.prog) ?_
  unfold F_disk_Disk_Waits
  cases hf : ws.find? (fun q => q.1 == i) with
  | some q =>
    rw [hf] at lk
    have hwl : wl ws i = q.2.2 := by unfold wl; rw [hf]
    have ln := ln_gs q.2.1 (q.2.2.length / 64) 64
    rw [hwl]
    have stq := (And.intro (hm) (And.intro (g) (And.intro (nl) (And.intro (fa) (And.intro (l2) (And.intro (lk) (ln)))))))
    repeat first
      | ((with_reducible apply ends_bind); case h => first | (simp only [stp, stq]; first | done | rfl) | rfl)
      | ((with_reducible apply ends_t); case h => first | rfl | (simp only [stp, stq]; done))
      | ((with_reducible apply ends_f); case h => first | rfl | (simp only [stp, stq]; done))
    exact ends_some ⟨.inl rfl, _, rfl, rfl⟩
  | none =>
    rw [hf] at lk
    have hwl : wl ws i = [] := by unfold wl; rw [hf]
    have ln : lenA Try.prog 35 (.v (.slice none 0 0)) = some (.v (.int .i64 0)) := by kernel_rfl
    rw [hwl]
    have stq := (And.intro (hm) (And.intro (g) (And.intro (nl) (And.intro (fa) (And.intro (l2) (And.intro (lk) (ln)))))))
    repeat first
      | ((with_reducible apply ends_bind); case h => first | (simp only [stp, stq]; first | done | rfl) | rfl)
      | ((with_reducible apply ends_t); case h => first | rfl | (simp only [stp, stq]; done))
      | ((with_reducible apply ends_f); case h => first | rfl | (simp only [stp, stq]; done))
    exact ends_some ⟨.inl rfl, _, rfl, rfl⟩
end Go.Sy.Pr0

namespace Go.Sy.Pr0
open Go.Proofs

abbrev useS (l u : Int) (g : Bool) : List AV := sup (useE l u g).2.1 (useE l u g).2.2.1 (useE l u g).2.2.2
theorem use_sup (k : Nat) {bx : Bx} {d s n m ps : Nat} {w : AV} {l u : Int} {g : Bool} (hd : bx[d]? = some [.bp ps 0, .bsl s 0 n 64, .mp m, w]) (hp : bx[ps]? = some (sup l u g)) (i : Int) (hs : s < bx.length) :
    evFn cx0 ext0 (k + 2) 25 [.bp d 0, .v (.int .i64 i)] bx = if 0 ≤ i ∧ i < (n : Int) then some (.v (.int .i64 (useE l u g).1), bx.set ps (useS l u g)) else some (.v (.int .i64 2), bx) := by
  rw [E_disk_Disk_use]
  have hm := mayc k (md := md_disk_Disk_use) rfl hd i hs
  have nl : nilA (.bp d 0) = some (.bp d 0) := rfl
  have fa : fieldAddrA Try.prog 63 (.bp d 0) 0 = some (.bp d 0) := by kernel_rfl
  have ld : loadA Try.prog 47 bx (.bp d 0) = some (.bp ps 0) := by
    have h1 : szA Try.prog 47 = some 1 ∧ agA Try.prog 47 = some false := ⟨by kernel_rfl, by kernel_rfl⟩
    simp only [loadA, hd, Option.bind_some, partA, h1.1, h1.2]
    rfl
  have us : callA (evFn cx0 ext0 (k + 1)) md_disk_Disk_use bx 40 [.bp ps 0] = some (.v (.int .i64 (useE l u g).1), bx.set ps (useS l u g)) := by
    rw [call_k rfl]
    have h : ext0 40 [.bp ps 0] bx = some (.v (.int .i64 (useE l u g).1), bx.set ps (useS l u g)) := by
      show extN _ _ _ = _
      unfold extN
      rw [if_pos rfl]
      simp only [hp, sup]
    show (match ext0 40 [.bp ps 0] bx with | some r => some r | none => _) = _
    rw [h]
  split
  · rename_i h
    rw [if_pos h] at hm
    refine ends_fin (P := Try.prog) ?_
    unfold F_disk_Disk_use
    have g : ((0 : Int) != 0) = false := rfl
    have stq := (And.intro (hm) (And.intro (g) (And.intro (nl) (And.intro (fa) (And.intro (ld) (us))))))
    repeat first
      | ((with_reducible apply ends_bind); case h => first | (simp only [stp, stq]; first | done | rfl) | rfl)
      | ((with_reducible apply ends_t); case h => first | rfl | (simp only [stp, stq]; done))
      | ((with_reducible apply ends_f); case h => first | rfl | (simp only [stp, stq]; done))
    exact ends_some ⟨.inl rfl, _, rfl, rfl⟩
  · rename_i h
    rw [if_neg h] at hm
    refine ends_fin (P := Try.prog) ?_
    unfold F_disk_Disk_use
    have g : ((2 : Int) != 0) = true := rfl
    have stq := (And.intro (hm) (g))
    repeat first
      | ((with_reducible apply ends_bind); case h => first | (simp only [stp, stq]; first | done | rfl) | rfl)
      | ((with_reducible apply ends_t); case h => first | rfl | (simp only [stp, stq]; done))
      | ((with_reducible apply ends_f); case h => first | rfl | (simp only [stp, stq]; done))
    exact ends_some ⟨.inl rfl, _, rfl, rfl⟩
section
variable {O : Nat → Prop} {bx : Bx} {d s n m cl ps : Nat} {l u : Int} {g : Bool} {z : Int} {c : List UInt8} {bs : List Nat} {ws : Ws}
theorem write_no (k : Nat) {e : Int} (he : e ≠ 0) {bx1 : Bx} {i : Int} {b : List UInt8} (hu : evFn cx0 ext0 (k + 2) 25 [.bp d 0, .v (.int .i64 i)] (bx ++ [u8l b]) = some (.v (.int .i64 e), bx1)) :
    evFn cx0 ext0 (k + 3) 8 [.bp d 0, .v (.int .i64 i), .agg (u8l b)] bx = some (.v (.int .i64 e), bx1) ∧ evFn cx0 ext0 (k + 3) 14 [.bp d 0, .v (.int .i64 i), .agg (u8l b)] bx = some (.v (.int .i64 e), bx1) := by
  have hbx := box_agg bx (u8l b)
  have g1 : (e == 0) = false := by simpa using he
  constructor
  · have cu : callA (evFn cx0 ext0 (k + 2)) md_disk_Disk_Write (bx ++ [u8l b]) 25 [.bp d 0, .v (.int .i64 i)] = some (.v (.int .i64 e), bx1) := by rw [call_k rfl]; exact hu
    rw [E_disk_Disk_Write]
    refine ends_fin (P := Try.prog) ?_
    unfold F_disk_Disk_Write
    have stq := (And.intro (hbx) (And.intro (cu) (g1)))
    repeat first
      | ((with_reducible apply ends_bind); case h => first | (simp only [stp, stq]; first | done | rfl) | rfl)
      | ((with_reducible apply ends_t); case h => first | rfl | (simp only [stp, stq]; done))
      | ((with_reducible apply ends_f); case h => first | rfl | (simp only [stp, stq]; done))
    exact ends_some ⟨.inl rfl, _, rfl, rfl⟩
  · have cu : callA (evFn cx0 ext0 (k + 2)) md_disk_Disk_Force (bx ++ [u8l b]) 25 [.bp d 0, .v (.int .i64 i)] = some (.v (.int .i64 e), bx1) := by rw [call_k rfl]; exact hu
    rw [E_disk_Disk_Force]
    refine ends_fin (P := Try.prog) ?_
    unfold F_disk_Disk_Force
    have stq := (And.intro (hbx) (And.intro (cu) (g1)))
    repeat first
      | ((with_reducible apply ends_bind); case h => first | (simp only [stp, stq]; first | done | rfl) | rfl)
      | ((with_reducible apply ends_t); case h => first | rfl | (simp only [stp, stq]; done))
      | ((with_reducible apply ends_f); case h => first | rfl | (simp only [stp, stq]; done))
    exact ends_some ⟨.inl rfl, _, rfl, rfl⟩
/-- where a key stands -/
theorem idx_w (k : Nat) : ∀ (ws : Ws) (o : Nat), ∃ r, idxL .i64 (k : Int) (wEs ws) o = some r ∧ (r = none → ∀ q ∈ ws, q.1 ≠ k) ∧ ∀ j, r = some j → ∃ i q, j = i + o ∧ ws[i]? = some q ∧ q.1 = k
  | [], o => ⟨none, rfl, by simp, by simp⟩
  | q :: ws, o => by
    obtain ⟨r, h1, h2, h3⟩ := idx_w k ws (o + 1)
    show ∃ r, idxL .i64 (k : Int) (.tup [.v (.int .i64 (q.1 : Int)), .gs q.2.1 (q.2.2.length / 64) 64] :: wEs ws) o = some r ∧ _
    by_cases hk : q.1 = k
    · refine ⟨some o, ?_, by simp, fun j hj => ⟨0, q, by simp at hj; omega, rfl, hk⟩⟩
      have e1 : ((k : Int) == (q.1 : Int)) = true := by simp [hk]
      simp only [idxL, if_true, e1]
    · refine ⟨r, ?_, fun hr x hx => ?_, fun j hj => ?_⟩
      · have e1 : ((k : Int) == (q.1 : Int)) = false := by simp; omega
        simp only [idxL, if_true, e1, Bool.false_eq_true, if_false]
        exact h1
      · rcases List.mem_cons.1 hx with rfl | hx
        · exact hk
        · exact h2 hr x hx
      · obtain ⟨i, x, e1, e2, e3⟩ := h3 j hj
        exact ⟨i + 1, x, by omega, by simpa using e2, e3⟩
theorem map_erase {α β : Type} (f : α → β) : ∀ (l : List α) (j : Nat), (l.map f).eraseIdx j = (l.eraseIdx j).map f
  | [], _ => rfl
  | x :: l, 0 => rfl
  | x :: l, j + 1 => by
    show f x :: (l.map f).eraseIdx j = f x :: (l.eraseIdx j).map f
    rw [map_erase f l j]
theorem wl_erase {k : Nat} : ∀ {ws : Ws} {j : Nat} {q : Wt}, (ws.map (·.1)).Nodup → ws[j]? = some q → q.1 = k → ∀ x, wl (ws.eraseIdx j) x = if x = k then [] else wl ws x
  | [], j, q, _, h, _, _ => by simp at h
  | a :: ws, 0, q, hn, h, hk, x => by
    simp at h
    subst h
    rw [List.map_cons, List.nodup_cons] at hn
    show wl ws x = _
    by_cases e : x = k
    · rw [if_pos e]
      unfold wl
      rw [List.find?_eq_none.2 fun y hy hp => hn.1 (by simp at hp; exact List.mem_map.2 ⟨y, hy, by omega⟩)]
    · rw [if_neg e]
      unfold wl
      rw [List.find?_cons]
      have : (a.1 == x) = false := by simp; omega
      rw [this]
  | a :: ws, j + 1, q, hn, h, hk, x => by
    rw [List.map_cons, List.nodup_cons] at hn
    have ih := wl_erase hn.2 (by simpa using h) hk x
    have hak : a.1 ≠ k := fun e => hn.1 (List.mem_map.2 ⟨q, List.mem_of_getElem? (i := j) (by simpa using h), by omega⟩)
    show wl (a :: ws.eraseIdx j) x = _
    have h1 : ∀ l : Ws, wl (a :: l) x = if a.1 = x then a.2.2 else wl l x := by
      intro l
      unfold wl
      rw [List.find?_cons]
      by_cases e : a.1 = x
      · have : (a.1 == x) = true := by simpa using e
        rw [this, if_pos e]
      · have : (a.1 == x) = false := by simpa using e
        rw [this, if_neg e]
    rw [h1, h1, ih]
    by_cases e : a.1 = x
    · rw [if_pos e, if_pos e, if_neg (by omega)]
    · rw [if_neg e, if_neg e]
theorem del_no {bx : Bx} {m cl k : Nat} {bs : List Nat} {ws : Ws} (hm : bx[m]? = some (stH cl bs :: wEs ws)) (h1 : idxL .i64 (k : Int) (wEs ws) 0 = some none) :
    dlV Try.prog 61 bx (.mp m) (.v (.int .i64 (k : Int))) = some (.v (.tuple #[]), bx.set m (stH cl bs :: wEs ws)) := by
  have h : delL .i64 (k : Int) (stH cl bs :: wEs ws) = some (stH cl bs :: wEs ws) := by
    simp only [stH, delL, h1, Option.map_some]
  unfold dlV delA
  simp only [mp_w.1, Option.bind_some, mp_w.2, if_true, hm, h, Option.map_some]
theorem del_at {bx : Bx} {m cl k j : Nat} {bs : List Nat} {ws : Ws} (hm : bx[m]? = some (stH cl bs :: wEs ws)) (h1 : idxL .i64 (k : Int) (wEs ws) 0 = some (some j)) :
    dlV Try.prog 61 bx (.mp m) (.v (.int .i64 (k : Int))) = some (.v (.tuple #[]), bx.set m (stH cl (bs.eraseIdx j) :: wEs (ws.eraseIdx j))) := by
  have h : delL .i64 (k : Int) (stH cl bs :: wEs ws) = some (stH cl (bs.eraseIdx j) :: wEs (ws.eraseIdx j)) := by
    simp only [stH, delL, h1, Option.map_some]
    rw [map_erase]
    unfold wEs
    rw [map_erase]
  unfold dlV delA
  simp only [mp_w.1, Option.bind_some, mp_w.2, if_true, hm, h, Option.map_some]
/-- a sector's list is let go -/
theorem DB.del {p : AV} (D : DB O bx d s n m cl p z c bs ws) (k : Nat) : ∃ (bs' : List Nat) (ws' : Ws), dlV Try.prog 61 bx (.mp m) (.v (.int .i64 (k : Int))) = some (.v (.tuple #[]), bx.set m (stH cl bs' :: wEs ws')) ∧
    DB O (bx.set m (stH cl bs' :: wEs ws')) d s n m cl p z c bs' ws' ∧ ∀ x, wl ws' x = if x = k then [] else wl ws x := by
  obtain ⟨r, h1, h2, h3⟩ := idx_w k ws 0
  have hne : ∀ (L : List AV) i, i ≠ m → (bx.set m L)[i]? = bx[i]? := fun L i hi => List.getElem?_set_ne (Ne.symm hi)
  cases r with
  | none =>
    refine ⟨bs, ws, del_no D.hm h1, ?_, fun x => ?_⟩
    · rw [List.set_getElem?_self' D.hm]; exact D
    · by_cases e : x = k
      · rw [if_pos e]
        unfold wl
        rw [List.find?_eq_none.2 fun y hy hp => h2 rfl y hy (by simp at hp; omega)]
      · rw [if_neg e]
  | some j =>
    obtain ⟨i, q, e1, e2, e3⟩ := h3 j rfl
    have : i = j := by omega
    subst this
    refine ⟨bs.eraseIdx i, ws.eraseIdx i, del_at D.hm h1, ⟨by rw [hne _ _ D.ne.2.1]; exact D.hd, by rw [hne _ _ (Ne.symm D.ne.2.2)]; exact D.hs, D.hc, List.getElem?_set_self D.mlt, fun b hb => D.lt b (List.mem_of_mem_eraseIdx hb), D.nd.sublist (List.eraseIdx_sublist ..), ?_, fun q hq => ?_, ?_, ?_, D.ne, D.od⟩, wl_erase D.kn e2 e3⟩
    · rw [List.length_eraseIdx, List.length_eraseIdx, D.ln]
    · obtain ⟨h1, h2, h3, h4, h5, h6, h7, h8, h9⟩ := D.hw q (List.mem_of_mem_eraseIdx hq)
      exact ⟨h1, by rw [hne _ _ h9]; exact h2, h3, h4, h5, h6, h7, h8, h9⟩
    · rw [← map_erase]
      exact D.kn.sublist (List.eraseIdx_sublist ..)
    · rw [← map_erase]
      exact D.bn.sublist (List.eraseIdx_sublist ..)
theorem DB.stb0 {p : AV} (D : DB O bx d s n m cl p z c bs ws) {c' : List UInt8} (hc' : c'.length = n * 64) : DB O (bx.set s (u8l c')) d s n m cl p z c' bs ws := by
  have hne : ∀ i, i ≠ s → (bx.set s (u8l c'))[i]? = bx[i]? := fun i hi => List.getElem?_set_ne (Ne.symm hi)
  refine ⟨by rw [hne d D.ne.1]; exact D.hd, List.getElem?_set_self D.slt, hc', by rw [hne m D.ne.2.2]; exact D.hm, D.lt, D.nd, D.ln, fun q hq => ?_, D.kn, D.bn, D.ne, D.od⟩
  obtain ⟨h1, h2, h3, h4, h5, h6, h7, h8, h9⟩ := D.hw q hq
  exact ⟨h1, by rw [hne _ h8]; exact h2, h3, h4, h5, h6, h7, h8, h9⟩
theorem DB.cnt {p : AV} (D : DB O bx d s n m cl p z c bs ws) (z' : Int) : DB O (bx.set d [p, .bsl s 0 n 64, .mp m, .v (.int .i64 z')]) d s n m cl p z' c bs ws := by
  have hne : ∀ i, i ≠ d → (bx.set d [p, .bsl s 0 n 64, .mp m, .v (.int .i64 z')])[i]? = bx[i]? := fun i hi => List.getElem?_set_ne (Ne.symm hi)
  refine ⟨List.getElem?_set_self D.dlt, by rw [hne s (Ne.symm D.ne.1)]; exact D.hs, D.hc, by rw [hne m (Ne.symm D.ne.2.1)]; exact D.hm, D.lt, D.nd, D.ln, fun q hq => ?_, D.kn, D.bn, D.ne, D.od⟩
  obtain ⟨h1, h2, h3, h4, h5, h6, h7, h8, h9⟩ := D.hw q hq
  exact ⟨h1, by rw [hne _ h7]; exact h2, h3, h4, h5, h6, h7, h8, h9⟩
theorem force_core (k : Nat) {p : AV} {bx1 : Bx} {i : Nat} (hi : i < n) {b : List UInt8} (hb : b.length = 64)
    (hu : evFn cx0 ext0 (k + 2) 25 [.bp d 0, .v (.int .i64 i)] (bx ++ [u8l b]) = some (.v (.int .i64 0), bx1)) (D : DB O bx1 d s n m cl p z c bs ws) (ht : bx1[bx.length]? = some (u8l b)) :
    ∃ (bx' : Bx) (bs' : List Nat) (ws' : Ws), evFn cx0 ext0 (k + 3) 14 [.bp d 0, .v (.int .i64 i), .agg (u8l b)] bx = some (.v (.int .i64 0), bx') ∧
      DB O bx' d s n m cl p (IntKind.i64.wrap (z + 1)) (spl c i b) bs' ws' ∧ (∀ j, wl ws' j = if j = i then [] else wl ws j) ∧ (∀ j, ¬ O j → bx'[j]? = bx1[j]?) ∧ bx'.length = bx1.length ∧ (Good bx1 → Good bx') := by
  have hbx := box_agg bx (u8l b)
  have cu : callA (evFn cx0 ext0 (k + 2)) md_disk_Disk_Force (bx ++ [u8l b]) 25 [.bp d 0, .v (.int .i64 i)] = some (.v (.int .i64 0), bx1) := by rw [call_k rfl]; exact hu
  have g0 : ((0 : Int) == 0) = true := rfl
  have nl : nilA (.bp d 0) = some (.bp d 0) := rfl
  have fa := fa_d d
  have l1 := ld_d1 D.hd
  have lb : loadA Try.prog 32 bx1 (.bp bx.length 0) = some (.agg (u8l b)) := ld_a hB ht hb
  have ix := ix_bb s n i .i64 hi
  have st := st_bb D.hs D.hc hi hb
  have D2 := D.stb0 (spl_len D.hc hi hb)
  obtain ⟨b2, hb2⟩ : ∃ x, x = bx1.set s (u8l (spl c i b)) := ⟨_, rfl⟩
  rw [← hb2] at st D2
  have l2 := ld_d2 D2.hd
  obtain ⟨bs', ws', dl, D3, hwl⟩ := D2.del i
  obtain ⟨b3, hb3⟩ : ∃ x, x = b2.set m (stH cl bs' :: wEs ws') := ⟨_, rfl⟩
  rw [← hb3] at dl D3
  have l3 := ld_d3 D3.hd
  have sz := st_d3 (z' := IntKind.i64.wrap (z + 1)) D3.hd
  have D4 := D3.cnt (IntKind.i64.wrap (z + 1))
  obtain ⟨b4, hb4⟩ : ∃ x, x = b3.set d [p, .bsl s 0 n 64, .mp m, .v (.int .i64 (IntKind.i64.wrap (z + 1)))] := ⟨_, rfl⟩
  rw [← hb4] at sz D4
  refine ⟨b4, bs', ws', ?_, D4, hwl, fun j hj => ?_, by rw [hb4, hb3, hb2]; simp, fun hg => ?_⟩
  · rw [E_disk_Disk_Force]
    refine ends_fin (P := Try.prog) ?_
    unfold F_disk_Disk_Force
    have stq := (And.intro (hbx) (And.intro (cu) (And.intro (g0) (And.intro (nl) (And.intro (fa) (And.intro (l1) (And.intro (lb) (And.intro (ix) (And.intro (st) (And.intro (l2) (And.intro (dl) (And.intro (l3) (sz)))))))))))))
    repeat first
      | ((with_reducible apply ends_bind); case h => first | (simp only [stp, stq]; first | done | rfl) | rfl)
      | ((with_reducible apply ends_t); case h => first | rfl | (simp only [stp, stq]; done))
      | ((with_reducible apply ends_f); case h => first | rfl | (simp only [stp, stq]; done))
    exact ends_some ⟨.inl rfl, _, rfl, rfl⟩
  · rw [hb4, List.getElem?_set_ne (fun e => by subst e; exact hj D.od.1), hb3, List.getElem?_set_ne (fun e => by subst e; exact hj D.od.2.2), hb2, List.getElem?_set_ne (fun e => by subst e; exact hj D.od.2.1)]
  · rw [hb4, hb3, hb2]
    exact (((hg.set (eqCs_u8l _) _).set (eqCs_map _ _ _) _).set (eqCs_d (D.gp hg) _ _ _ _) _)
end
end Go.Sy.Pr0

namespace Go.Sy.Pr0
open Go.Proofs

theorem zs_bl (n : Nat) : zerosA Try.prog 32 n = some (u8l (List.replicate (n * 64) 0)) := by
  unfold zerosA
  rw [zc_bl]
  simp only [Option.bind_some, el_bl.2.2]
  rw [if_pos (by simp [u8l_len])]
  congr 1
  induction n with
  | zero => rfl
  | succ n ih =>
    rw [List.replicate_succ, List.flatten_cons, ih, u8l_app, List.replicate_append_replicate]
    congr 2
    omega
theorem mk_n (bx : Bx) {n : Nat} (hn : n ≤ 2048) : makeSliceA Try.prog bx 35 (.v (.int .i64 n)) (.v (.int .i64 n)) = some (.bsl bx.length 0 n 64, bx ++ [u8l (List.replicate (n * 64) 0)]) := by
  unfold makeSliceA
  simp only [el_bl.1]
  rw [if_pos ⟨trivial, trivial, by omega⟩]
  simp only [el_bl.2.1, el_bl.2.2, by_bl, Option.bind_some, Int.toNat_natCast, zs_bl]
  rw [if_pos ⟨by omega, by omega, by omega⟩]
  rfl
theorem bd_d (n q L M : Nat) : buildA Try.prog 63 [(0, .bp q 0), (1, .bsl L 0 n 64), (2, .mp M)] = some (.agg [.bp q 0, .bsl L 0 n 64, .mp M, .v (.int .i64 0)]) := by kernel_rfl
theorem new_no (k : Nat) (bx : Bx) {n : Int} (hn : ¬ (1 ≤ n ∧ n ≤ 2048)) (p : AV) : evFn cx0 ext0 (k + 1) 7 [.v (.int .i64 n), p] bx = some (.tup [nilP, .v (.int .i64 2)], bx) := by
  rw [E_disk_New]
  refine ends_fin (P := Try.prog) ?_
  unfold F_disk_New
  by_cases h : n < 1
  · have g1 : decide (n < 1) = true := decide_eq_true h
    have stq := (g1)
    repeat first
      | ((with_reducible apply ends_bind); case h => first | (simp only [stp, stq]; first | done | rfl) | rfl)
      | ((with_reducible apply ends_t); case h => first | rfl | (simp only [stp, stq]; done))
      | ((with_reducible apply ends_f); case h => first | rfl | (simp only [stp, stq]; done))
    exact ends_some ⟨.inl rfl, _, rfl, rfl⟩
  · have g1 : decide (n < 1) = false := decide_eq_false h
    have g2 : decide (2048 < n) = true := decide_eq_true (by omega)
    have stq := (And.intro (g1) (g2))
    repeat first
      | ((with_reducible apply ends_bind); case h => first | (simp only [stp, stq]; first | done | rfl) | rfl)
      | ((with_reducible apply ends_t); case h => first | rfl | (simp only [stp, stq]; done))
      | ((with_reducible apply ends_f); case h => first | rfl | (simp only [stp, stq]; done))
    exact ends_some ⟨.inl rfl, _, rfl, rfl⟩
theorem new_ok (k : Nat) (bx : Bx) {n : Nat} (h1 : 1 ≤ n) (h2 : n ≤ 2048) (q : Nat) : evFn cx0 ext0 (k + 1) 7 [.v (.int .i64 n), .bp q 0] bx =
    some (.tup [.bp (bx.length + 2) 0, .v (.int .i64 0)], bx ++ [u8l (List.replicate (n * 64) 0), [stH 0 []], [.bp q 0, .bsl bx.length 0 n 64, .mp (bx.length + 1), .v (.int .i64 0)]]) := by
  have g1 : decide ((n : Int) < 1) = false := decide_eq_false (by omega)
  have g2 : decide ((2048 : Int) < (n : Int)) = false := decide_eq_false (by omega)
  have mk := mk_n bx h2
  rw [E_disk_New]
  refine ends_fin (P := Try.prog) ?_
  unfold F_disk_New
  obtain ⟨b1, hb1⟩ : ∃ x, x = bx ++ [u8l (List.replicate (n * 64) 0)] := ⟨_, rfl⟩
  rw [← hb1] at mk
  have bd := bd_d n q bx.length b1.length
  have stq := (And.intro (g1) (And.intro (g2) (And.intro (mk) (bd))))
  repeat first
    | ((with_reducible apply ends_bind); case h => first | (simp only [stp, stq]; first | done | rfl) | rfl)
    | ((with_reducible apply ends_t); case h => first | rfl | (simp only [stp, stq]; done))
    | ((with_reducible apply ends_f); case h => first | rfl | (simp only [stp, stq]; done))
  refine ends_some ⟨.inl rfl, _, rfl, ?_⟩
  rw [hb1]
  simp [resA, get, stH, AV.cells]
section
variable {O : Nat → Prop} {bx : Bx} {d s n m cl : Nat} {p : AV} {z : Int} {c : List UInt8} {bs : List Nat} {ws : Ws}
theorem d_frz (hd : bx[d]? = some [p, .bsl s 0 n 64, .mp m, .v (.int .i64 z)]) (hs : s < bx.length) :
    ([.bp d 0] : List AV).map (frz bx true 6) = [.ip [frz bx true 5 p, .sl n ((((bx[s]'hs).drop 0).take (n * 64)).map (frz bx true 4)) true, .junk, .v (.int .i64 z)] true] := by
  simp only [List.map_cons, List.map_nil, frz, hd, List.drop_zero, List.getElem?_eq_getElem hs]
theorem len_raw (k : Nat) (p j w : AV) (cs : List AV) (n : Nat) : cf (evFn cx0 ext0 (k + 1)) 16 [.ip [p, .sl n cs true, j, w] true] = some (.v (.int .i64 n)) := by kernel_rfl
theorem writes_raw (k : Nat) (p j : AV) (z : Int) (cs : List AV) (n : Nat) : cf (evFn cx0 ext0 (k + 1)) 17 [.ip [p, .sl n cs true, j, .v (.int .i64 z)] true] = some (.v (.int .i64 z)) := by kernel_rfl
theorem clone_ev (k : Nat) {n : Nat} (h1 : 1 ≤ n) (h2 : n ≤ 2048) {c : List UInt8} (hc : c.length = n * 64) : evFn cx0 ext0 (k + 1) 28 [.sl n (u8l c) true] [] = some (.bsl 1 0 n 64, [[], u8l c]) := by
  have e1 : binA Try.prog .eql 35 (.sl n (u8l c) true) (.v (.slice none 0 0)) = some (.v (.bool false)) := by
    have hu : Try.prog.underlying 35 = some (.slice 32) := by kernel_rfl
    unfold binA
    simp only
    rw [if_pos (by omega), hu]
  have b0 : buildSliceA Try.prog [[]] 35 0 [] = some (.bsl 1 0 0 64, [[], []]) := by kernel_rfl
  have a0 : appA Try.prog 0 [[], []] 35 (.bsl 1 0 0 64) (.sl n (u8l c) true) = some (.bsl 1 0 n 64, AV.keep (· != 1), [[], u8l c]) := by
    unfold appA
    have rd : readA [[], []] (.sl n (u8l c) true) = some (n, u8l c) := rfl
    simp only [el_bl.1, if_true, el_bl.2.1, el_bl.2.2, by_bl, zc_bl, Option.bind_some, rd]
    rw [if_pos ⟨by rw [u8l_len, hc], by omega, by simp [u8l_len], by omega, by omega, by omega⟩]
    have g : ([[], []] : Bx)[1]? = some [] := rfl
    simp only [g, Option.bind_some]
    rw [if_pos ⟨trivial, by omega, by simp, .inl trivial, by omega⟩]
    simp only [Nat.zero_add, List.nil_append, u8l_keep]
    rw [if_neg (by omega)]
    rfl
  rw [E_slices_Clone_api_Block_api_Block]
  refine ends_fin (P := Try.prog) ?_
  unfold F_slices_Clone_api_Block_api_Block
  refine ends_bind _ rfl ?_
  refine ends_bind _ (congrArg (pv [[]]) e1) ?_
  refine ends_f rfl ?_
  refine ends_bind _ b0 ?_
  refine ends_bind _ a0 ?_
  exact ends_some ⟨.inl rfl, _, rfl, rfl⟩
theorem image_ev (k : Nat) (D : DB O bx d s n m cl p z c bs ws) (h1 : 1 ≤ n) (h2 : n ≤ 2048) : evFn cx0 ext0 (k + 2) 18 [.bp d 0] bx = some (.bsl (bx.length + 1) 0 n 64, bx ++ [[], u8l c]) := by
  obtain ⟨b1, hb1⟩ : ∃ x, x = bx ++ [[]] := ⟨_, rfl⟩
  have D1 : DB O b1 d s n m cl p z c bs ws := by
    have h : ∀ {i : Nat} {l : List AV}, bx[i]? = some l → b1[i]? = some l := fun {i l} h => by rw [hb1, List.getElem?_append_left (List.getElem?_eq_some_iff.1 h).1]; exact h
    exact ⟨h D.hd, h D.hs, D.hc, h D.hm, D.lt, D.nd, D.ln, fun q hq => by obtain ⟨h1, h2, h3⟩ := D.hw q hq; exact ⟨h1, h h2, h3⟩, D.kn, D.bn, D.ne, D.od⟩
  have pn : binA Try.prog .eql 25 (.bp d 0) nilP = some (.v (.bool false)) := by kernel_rfl
  have nl : nilA (.bp d 0) = some (.bp d 0) := rfl
  have fa := fa_d d
  have l1 := ld_d1 D1.hd
  have hf : ([.bsl s 0 n 64] : List AV).map (frz b1 true 6) = [.sl n (u8l c) true] := by
    have h1 : frz b1 true 6 (.bsl s 0 n 64) = (match b1[s]? with | some l => .sl n (((l.drop 0).take (n * 64)).map (frz b1 true 5)) true | none => .junk) := rfl
    rw [List.map_cons, List.map_nil, h1, D1.hs]
    simp only [List.drop_zero]
    rw [List.take_of_length_le (by rw [u8l_len, D1.hc]; omega), u8l_frz]
  have cl : callA (evFn cx0 ext0 (k + 1)) md_disk_Disk_Image b1 28 [.bsl s 0 n 64] = some (.bsl b1.length 0 n 64, b1 ++ [u8l c]) := by
    rw [callA_boxed (off := 0) (m := n) (e := 64) (b := 1) (bx' := [[], u8l c]) rfl (by rw [hf]; exact clone_ev k h1 h2 D.hc)]
    have : ((([[], u8l c] : Bx)[1]?).getD []) = u8l c := rfl
    rw [this, List.drop_zero, List.take_of_length_le (by rw [u8l_len, D.hc]; omega), u8l_bare]
  have r1 : (some (AV.bsl bx.length 0 0 0, bx ++ [[]]) : Option (AV × Bx)) = some (.bsl bx.length 0 0 0, b1) := by rw [hb1]
  rw [E_disk_Disk_Image]
  refine ends_fin (P := Try.prog) ?_
  unfold F_disk_Disk_Image
  refine ends_bind _ r1 ?_
  have stq := (And.intro (pn) (And.intro (nl) (And.intro (fa) (And.intro (l1) (cl)))))
  repeat first
    | ((with_reducible apply ends_bind); case h => first | (simp only [stp, stq]; first | done | rfl) | rfl)
    | ((with_reducible apply ends_t); case h => first | rfl | (simp only [stp, stq]; done))
    | ((with_reducible apply ends_f); case h => first | rfl | (simp only [stp, stq]; done))
  refine ends_some ⟨.inl rfl, _, rfl, ?_⟩
  rw [hb1]
  simp [resA, get]
theorem load_no (k : Nat) (D : DB O bx d s n m cl p z c bs ws) {x : AV} {t : Nat} (hx : lenA Try.prog 35 x = some (.v (.int .i64 t))) (ht : t ≠ n) : evFn cx0 ext0 (k + 1) 15 [.bp d 0, x] bx = some (.v (.int .i64 2), bx) := by
  have pn : binA Try.prog .eql 25 (.bp d 0) nilP = some (.v (.bool false)) := by kernel_rfl
  have nl : nilA (.bp d 0) = some (.bp d 0) := rfl
  have fa := fa_d d
  have l1 := ld_d1 D.hd
  have ln := ln_bb s n 64
  have g1 : ((t : Int) != (n : Int)) = true := by simp; omega
  rw [E_disk_Disk_Load]
  refine ends_fin (P := Try.prog) ?_
  unfold F_disk_Disk_Load
  have stq := (And.intro (pn) (And.intro (hx) (And.intro (nl) (And.intro (fa) (And.intro (l1) (And.intro (ln) (g1)))))))
  repeat first
    | ((with_reducible apply ends_bind); case h => first | (simp only [stp, stq]; first | done | rfl) | rfl)
    | ((with_reducible apply ends_t); case h => first | rfl | (simp only [stp, stq]; done))
    | ((with_reducible apply ends_f); case h => first | rfl | (simp only [stp, stq]; done))
  exact ends_some ⟨.inl rfl, _, rfl, rfl⟩
theorem load_ok (k : Nat) (D : DB O bx d s n m cl p z c bs ws) {x : AV} (hx : lenA Try.prog 35 x = some (.v (.int .i64 n))) {cs : List UInt8} (hcs : cs.length = n * 64) (hr : readA bx x = some (n, u8l cs)) :
    evFn cx0 ext0 (k + 1) 15 [.bp d 0, x] bx = some (.v (.int .i64 0), (bx.set s (u8l cs)).set m [stH cl []]) := by
  have pn : binA Try.prog .eql 25 (.bp d 0) nilP = some (.v (.bool false)) := by kernel_rfl
  have nl : nilA (.bp d 0) = some (.bp d 0) := rfl
  have fa := fa_d d
  have l1 := ld_d1 D.hd
  have ln := ln_bb s n 64
  have g1 : ((n : Int) != (n : Int)) = false := by simp
  have cp : copyA Try.prog bx 35 (.bsl s 0 n 64) x = some (.v (.int .i64 (min (n : Int) n)), bx.set s (u8l cs)) := by
    unfold copyA
    simp only [el_bl.1, if_true, el_bl.2.1, el_bl.2.2, Option.bind_some, hr, D.hs]
    rw [if_pos ⟨by rw [u8l_len, D.hc]; omega, by rw [u8l_len, hcs]⟩, Nat.min_self, List.take_of_length_le (by rw [u8l_len, hcs]; omega), storeL_eq _ _ _ (by simp only [u8l_len, hcs, D.hc]; omega)]
    simp only [List.take_zero, List.nil_append, Nat.zero_add]
    rw [List.drop_of_length_le (by simp only [u8l_len, hcs, D.hc]; omega), List.append_nil]
  have D1 := D.stb0 hcs
  obtain ⟨b1, hb1⟩ : ∃ x, x = bx.set s (u8l cs) := ⟨_, rfl⟩
  rw [← hb1] at cp D1 ⊢
  have l2 := ld_d2 D1.hd
  have cr : crV b1 (.mp m) = some (.v (.tuple #[]), b1.set m [stH cl []]) := by
    unfold crV clrM
    simp only [D1.hm, Option.bind_some, stH]
    rfl
  rw [E_disk_Disk_Load]
  refine ends_fin (P := Try.prog) ?_
  unfold F_disk_Disk_Load
  have stq := (And.intro (pn) (And.intro (hx) (And.intro (nl) (And.intro (fa) (And.intro (l1) (And.intro (ln) (And.intro (g1) (And.intro (cp) (And.intro (l2) (cr))))))))))
  repeat first
    | ((with_reducible apply ends_bind); case h => first | (simp only [stp, stq]; first | done | rfl) | rfl)
    | ((with_reducible apply ends_t); case h => first | rfl | (simp only [stp, stq]; done))
    | ((with_reducible apply ends_f); case h => first | rfl | (simp only [stp, stq]; done))
  exact ends_some ⟨.inl rfl, _, rfl, rfl⟩
theorem read_out (k : Nat) (D : DB O bx d s n m cl p z c bs ws) {i : Int} (hi : ¬ (0 ≤ i ∧ i < (n : Int))) :
    evFn cx0 ext0 (k + 2) 11 [.bp d 0, .v (.int .i64 i)] bx = some (.tup [.agg (u8l (List.replicate 64 0)), .v (.int .i64 2)], bx ++ [u8l (List.replicate 64 0)]) := by
  obtain ⟨bx1, hb1⟩ : ∃ x, x = bx ++ [u8l (List.replicate 64 0)] := ⟨_, rfl⟩
  have al : allocA Try.prog bx 32 = some (.bp bx.length 0, bx1) := by rw [hb1]; exact al_a hB bx
  have D1 : DB O bx1 d s n m cl p z c bs ws := by rw [hb1]; exact D.app _
  have hm := mayc k (md := md_disk_Disk_Read) rfl D1.hd i D1.slt
  rw [if_neg hi] at hm
  have g : ((2 : Int) != 0) = true := rfl
  have bz : buildA Try.prog 32 [] = some (.agg (u8l (List.replicate 64 0))) := by kernel_rfl
  have hz : bx1[bx.length]? = some (u8l (List.replicate 64 0)) := by rw [hb1]; simp
  have st := st_a hB hz (by simp) (show (List.replicate 64 (0 : UInt8)).length = 64 by simp)
  rw [List.set_getElem?_self' hz] at st
  have ld : loadA Try.prog 32 bx1 (.bp bx.length 0) = some (.agg (u8l (List.replicate 64 0))) := ld_a hB hz (by simp)
  rw [← hb1, E_disk_Disk_Read]
  refine ends_fin (P := Try.prog) ?_
  unfold F_disk_Disk_Read
  have stq := (And.intro (al) (And.intro (hm) (And.intro (g) (And.intro (bz) (st)))))
  repeat first
    | ((with_reducible apply ends_bind); case h => first | (simp only [stp, stq]; first | done | rfl) | rfl)
    | ((with_reducible apply ends_t); case h => first | rfl | (simp only [stp, stq]; done))
    | ((with_reducible apply ends_f); case h => first | rfl | (simp only [stp, stq]; done))
  exact ends_some ⟨.inl rfl, [.agg (u8l (List.replicate 64 0)), .v (.int .i64 2)], by
    simp only [resL, get]
    exact congrArg (Option.bind · _) ld, rfl⟩
theorem waits_out (k : Nat) (D : DB O bx d s n m cl p z c bs ws) {i : Int} (hi : ¬ (0 ≤ i ∧ i < (n : Int))) :
    evFn cx0 ext0 (k + 2) 13 [.bp d 0, .v (.int .i64 i)] bx = some (.v (.int .i64 0), bx) := by
  have hm := mayc k (md := md0) rfl D.hd i D.slt
  rw [if_neg hi] at hm
  have g : ((2 : Int) != 0) = true := rfl
  rw [E_disk_Disk_Waits]
  refine ends_fin (P := Try.prog) ?_
  unfold F_disk_Disk_Waits
  have stq := (And.intro (hm) (g))
  repeat first
    | ((with_reducible apply ends_bind); case h => first | (simp only [stp, stq]; first | done | rfl) | rfl)
    | ((with_reducible apply ends_t); case h => first | rfl | (simp only [stp, stq]; done))
    | ((with_reducible apply ends_f); case h => first | rfl | (simp only [stp, stq]; done))
  exact ends_some ⟨.inl rfl, _, rfl, rfl⟩
end
end Go.Sy.Pr0

/-
  Layer 04: what disk.Write, disk.Read and disk.Waits do, where the supply is none.
-/
import Derived.Test.YtijmfjpcjceejaaPfCon2
namespace Go.Sy.Pr0
open Go.Proofs

theorem DB.app {O : Nat → Prop} {bx : Bx} {d s n m cl : Nat} {p : AV} {z : Int} {c : List UInt8} {bs : List Nat} {ws : Ws} (D : DB O bx d s n m cl p z c bs ws) (t : Bx) : DB O (bx ++ t) d s n m cl p z c bs ws := by
  have h : ∀ {i : Nat} {l : List AV}, bx[i]? = some l → (bx ++ t)[i]? = some l := fun {i l} h => by rw [List.getElem?_append_left (List.getElem?_eq_some_iff.1 h).1]; exact h
  exact ⟨h D.hd, h D.hs, D.hc, h D.hm, D.lt, D.nd, D.ln, fun q hq => by obtain ⟨h1, h2, h3⟩ := D.hw q hq; exact ⟨h1, h h2, h3⟩, D.kn, D.bn, D.ne, D.od⟩
/-- boxes that are not the disk's are others -/
theorem DB.frame {O : Nat → Prop} {bx bx' : Bx} {d s n m cl : Nat} {p : AV} {z : Int} {c : List UInt8} {bs : List Nat} {ws : Ws} (D : DB O bx d s n m cl p z c bs ws) (h : ∀ i, O i → i < bx.length → bx'[i]? = bx[i]?) : DB O bx' d s n m cl p z c bs ws := by
  have g : ∀ {i : Nat} {l : List AV}, O i → bx[i]? = some l → bx'[i]? = some l := fun {i l} ho hl => by rw [h i ho (List.getElem?_eq_some_iff.1 hl).1]; exact hl
  exact ⟨g D.od.1 D.hd, g D.od.2.1 D.hs, D.hc, g D.od.2.2 D.hm, D.lt, D.nd, D.ln, fun q hq => by obtain ⟨h1, h2, h3, h4, h5, h6, h7⟩ := D.hw q hq; exact ⟨h1, g h6 h2, h3, h4, h5, h6, h7⟩, D.kn, D.bn, D.ne, D.od⟩
theorem write_nil (k : Nat) {O : Nat → Prop} {bx : Bx} {d s n m cl : Nat} {z : Int} {c : List UInt8} {bs : List Nat} {ws : Ws} (D : DB O bx d s n m cl nilP z c bs ws) (hO : ∀ j, O j → j < bx.length) {i : Nat} (hi : i < n) {b : List UInt8} (hb : b.length = 64)
    (hbig : (wl ws i).length < 2 ^ 31) :
    ∃ (bx' : Bx) (O' : Nat → Prop) (cl' : Nat) (bs' : List Nat) (ws' : Ws), evFn cx0 ext0 (k + 3) 8 [.bp d 0, .v (.int .i64 i), .agg (u8l b)] bx = some (.v (.int .i64 0), bx') ∧
      DB O' bx' d s n m cl' nilP (IntKind.i64.wrap (z + 1)) c bs' ws' ∧ (∀ j, wl ws' j = if j = i then wl ws i ++ b else wl ws j) ∧ (∀ j, O j → O' j) ∧ (∀ j, O' j → O j ∨ bx.length ≤ j) ∧ (∀ j, O' j → j < bx'.length) ∧
      (∀ j, j < bx.length → ¬ O j → bx'[j]? = bx[j]?) ∧ bx.length ≤ bx'.length ∧ (Good bx → Good bx') := by
  have D1 := D.app [u8l b]
  have hu := use_ev k D1.hd i D1.slt
  rw [if_pos (by omega)] at hu
  obtain ⟨bx', O', cl', bs', ws', h1, h2, h3, h4, h5, h6, h7, h8⟩ := write_core k hi hb hu D1 (by simp) (fun h => by have := hO _ h; omega) hbig
  rw [List.length_append] at h5 h7
  refine ⟨bx', O', cl', bs', ws', h1, h2, h3, h4, fun j hj => (h5 j hj).imp id fun h => by have := h.1; simp at this; omega, fun j hj => ?_, fun j hj ho => ?_, by simp at h7; omega, fun hg => h8 (hg.app (Good.b1 b))⟩
  · rcases h5 j hj with h | h
    · have := hO j h; simp at h7; omega
    · exact h.2
  · rw [h6 j (by simp; omega) ho, List.getElem?_append_left hj]
theorem read_ev (k : Nat) {O : Nat → Prop} {bx : Bx} {d s n m cl : Nat} {p : AV} {z : Int} {c : List UInt8} {bs : List Nat} {ws : Ws} (D : DB O bx d s n m cl p z c bs ws) (i : Nat) (hi : i < n) :
    ∃ t : Bx, evFn cx0 ext0 (k + 2) 11 [.bp d 0, .v (.int .i64 i)] bx = some (.tup [.agg (u8l (shw c ws i)), .v (.int .i64 0)], bx ++ t) ∧ Good t := by
  obtain ⟨bx1, hb1⟩ : ∃ x, x = bx ++ [u8l (List.replicate 64 0)] := ⟨_, rfl⟩
  have al : allocA Try.prog bx 32 = some (.bp bx.length 0, bx1) := by rw [hb1]; exact al_a hB bx
  have D1 : DB O bx1 d s n m cl p z c bs ws := by rw [hb1]; exact D.app _
  have hm := mayc k (md := md_disk_Disk_Read) rfl D1.hd i D1.slt
  rw [if_pos (by omega)] at hm
  have g : ((0 : Int) != 0) = false := rfl
  have hl : (shw c ws i).length = 64 := by
    unfold shw
    split
    · rename_i h
      unfold wl at h ⊢
      split
      · rename_i q hf
        rw [hf] at h
        obtain ⟨hq, _⟩ := find_some hf
        obtain ⟨w1, w2, w3, w4, w5⟩ := D.hw q hq
        exact bk_len (n := q.2.2.length / 64) (by omega) (by omega)
      · rename_i hf
        rw [hf] at h
        simp at h
    · exact bk_len hi D.hc
  have sh : callA (evFn cx0 ext0 (k + 1)) md_disk_Disk_Read bx1 26 [.bp d 0, .v (.int .i64 i)] = some (.agg (u8l (shw c ws i)), bx1 ++ [u8l (shw c ws i)]) := by
    rw [call_k rfl]
    exact shows_ev k D1 i hi
  have hz : (bx1 ++ [u8l (shw c ws i)])[bx.length]? = some (u8l (List.replicate 64 0)) := by rw [hb1]; simp
  have st := st_a hB hz (by simp) hl
  have hset : (bx1 ++ [u8l (shw c ws i)]).set bx.length (u8l (shw c ws i)) = bx ++ [u8l (shw c ws i), u8l (shw c ws i)] := by rw [hb1]; simp
  rw [hset] at st
  refine ⟨[u8l (shw c ws i), u8l (shw c ws i)], ?_, (Good.b1 _).app (Good.b1 _)⟩
  rw [E_disk_Disk_Read]
  refine ends_fin (P := Try.prog) ?_
  unfold F_disk_Disk_Read
  have ld : loadA Try.prog 32 (bx ++ [u8l (shw c ws i), u8l (shw c ws i)]) (.bp bx.length 0) = some (.agg (u8l (shw c ws i))) := ld_a hB (by simp) hl
  have stq := (And.intro (al) (And.intro (hm) (And.intro (g) (And.intro (sh) (st)))))
  repeat first
    | ((with_reducible apply ends_bind); case h => first | (simp only [stp, stq]; first | done | rfl) | rfl)
    | ((with_reducible apply ends_t); case h => first | rfl | (simp only [stp, stq]; done))
    | ((with_reducible apply ends_f); case h => first | rfl | (simp only [stp, stq]; done))
  exact ends_some ⟨.inl rfl, [.agg (u8l (shw c ws i)), .v (.int .i64 0)], by
    simp only [resL, get]
    exact congrArg (Option.bind · _) ld, rfl⟩
theorem waits_ev (k : Nat) {O : Nat → Prop} {bx : Bx} {d s n m cl : Nat} {p : AV} {z : Int} {c : List UInt8} {bs : List Nat} {ws : Ws} (D : DB O bx d s n m cl p z c bs ws) (i : Nat) (hi : i < n) :
    evFn cx0 ext0 (k + 2) 13 [.bp d 0, .v (.int .i64 i)] bx = some (.v (.int .i64 ((wl ws i).length / 64 : Nat)), bx) := by
  have hm := mayc k (md := md0) rfl D.hd i D.slt
  rw [if_pos (by omega)] at hm
  have g : ((0 : Int) != 0) = false := rfl
  have nl : nilA (.bp d 0) = some (.bp d 0) := rfl
  have fa := fa_d d
  have l2 := ld_d2 D.hd
  have lk := look_w D.hm i
  rw [E_disk_Disk_Waits]
  refine ends_fin (P := Try.prog) ?_
  unfold F_disk_Disk_Waits
  cases hf : ws.find? (fun q => q.1 == i) with
  | some q =>
    rw [hf] at lk
    have hwl : wl ws i = q.2.2 := by unfold wl; rw [hf]
    have ln := ln_gs q.2.1 (q.2.2.length / 64) 64
    rw [hwl]
    have stq := (And.intro (hm) (And.intro (g) (And.intro (nl) (And.intro (fa) (And.intro (l2) (And.intro (lk) (ln)))))))
    repeat first
      | ((with_reducible apply ends_bind); case h => first | (simp only [stp, stq]; first | done | rfl) | rfl)
      | ((with_reducible apply ends_t); case h => first | rfl | (simp only [stp, stq]; done))
      | ((with_reducible apply ends_f); case h => first | rfl | (simp only [stp, stq]; done))
    exact ends_some ⟨.inl rfl, _, rfl, rfl⟩
  | none =>
    rw [hf] at lk
    have hwl : wl ws i = [] := by unfold wl; rw [hf]
    have ln : lenA Try.prog 35 (.v (.slice none 0 0)) = some (.v (.int .i64 0)) := by kernel_rfl
    rw [hwl]
    have stq := (And.intro (hm) (And.intro (g) (And.intro (nl) (And.intro (fa) (And.intro (l2) (And.intro (lk) (ln)))))))
    repeat first
      | ((with_reducible apply ends_bind); case h => first | (simp only [stp, stq]; first | done | rfl) | rfl)
      | ((with_reducible apply ends_t); case h => first | rfl | (simp only [stp, stq]; done))
      | ((with_reducible apply ends_f); case h => first | rfl | (simp only [stp, stq]; done))
    exact ends_some ⟨.inl rfl, _, rfl, rfl⟩
end Go.Sy.Pr0

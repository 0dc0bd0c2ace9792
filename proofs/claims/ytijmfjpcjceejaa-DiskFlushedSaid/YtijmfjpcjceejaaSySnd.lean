/-
  A call's answer among more boxes, and without the boxes that it made.
-/
import Derived.Test.YtijmfjpcjceejaaSyGrow
import Derived.Test.YtijmfjpcjceejaaSyArr
namespace Go.Sy

section
variable {P : Program}

/-- what stands for a value hangs on no box that is not there -/
theorem VR.closed {w : World} {im0 : Bool → Nat → Prop} {β : Beta} {x : AV} {y : Value} (h : VR w im0 β x y) : ∀ {n : Nat}, β.length ≤ n → x.keep (fun b => decide (b < n)) = x := by
  induction h with
  | v x => intros; rfl
  | agg l c hs ho h ih =>
    intro n hn
    simp only [AV.keep, AV.keepL_eq, AV.agg.injEq]
    refine List.ext_getElem? fun i => ?_
    rw [List.getElem?_map]
    rcases Nat.lt_or_ge i l.length with hi | hi
    · have h1 : l[i]? = some l[i] := List.getElem?_eq_getElem hi
      have h2 : c[i]? = some (c[i]'(by omega)) := Array.getElem?_eq_getElem (by omega)
      rw [h1, Option.map_some, ih i _ _ h1 h2 hn]
    · rw [List.getElem?_eq_none hi]; rfl
  | tup l c hs h ih =>
    intro n hn
    simp only [AV.keep, AV.keepL_eq, AV.tup.injEq]
    refine List.ext_getElem? fun i => ?_
    rw [List.getElem?_map]
    rcases Nat.lt_or_ge i l.length with hi | hi
    · have h1 : l[i]? = some l[i] := List.getElem?_eq_getElem hi
      have h2 : c[i]? = some (c[i]'(by omega)) := Array.getElem?_eq_getElem (by omega)
      rw [h1, Option.map_some, ih i _ _ h1 h2 hn]
    · rw [List.getElem?_eq_none hi]; rfl
  | sl n l f a cap blk off cv hn ha hc h ih => intros; rfl
  | ip l f blk off cv ha hc h ih => intros; rfl
  | bp b off blk o h =>
    intro n hn
    have := (List.getElem?_eq_some_iff.mp h).1
    simp only [AV.keep]
    rw [if_pos (by simp; omega)]
  | bsl b off m e blk o a cap h hn0 he ha hc =>
    intro n hn
    have := (List.getElem?_eq_some_iff.mp h).1
    simp only [AV.keep]
    rw [if_pos (by simp; omega)]
  | bslU b off a h =>
    intro n hn
    have := (List.getElem?_eq_some_iff.mp h).1
    simp only [AV.keep]
    rw [if_pos (by simp; omega)]
  | fn f pre caps pv cv hp hc h1 h2 ih1 ih2 =>
    intro n hn
    simp only [AV.keep, AV.keepL_eq, AV.fn.injEq, true_and]
    constructor
    · refine List.ext_getElem? fun i => ?_
      rw [List.getElem?_map]
      rcases Nat.lt_or_ge i pre.length with hi | hi
      · have g1 : pre[i]? = some pre[i] := List.getElem?_eq_getElem hi
        have g2 : pv[i]? = some (pv[i]'(by omega)) := Array.getElem?_eq_getElem (by omega)
        rw [g1, Option.map_some, ih1 i _ _ g1 g2 hn]
      · rw [List.getElem?_eq_none hi]; rfl
    · refine List.ext_getElem? fun i => ?_
      rw [List.getElem?_map]
      rcases Nat.lt_or_ge i caps.length with hi | hi
      · have g1 : caps[i]? = some caps[i] := List.getElem?_eq_getElem hi
        have g2 : cv[i]? = some (cv[i]'(by omega)) := Array.getElem?_eq_getElem (by omega)
        rw [g1, Option.map_some, ih2 i _ _ g1 g2 hn]
      · rw [List.getElem?_eq_none hi]; rfl
  | mp b blk h =>
    intro n hn
    have := (List.getElem?_eq_some_iff.mp h).1
    simp only [AV.keep]
    rw [if_pos (by simp; omega)]
  | gs b e g x h hx =>
    intro n hn
    have := (List.getElem?_eq_some_iff.mp h).1
    simp only [AV.keep]
    rw [if_pos (by simp; omega)]
  | gp b o m e g x h hx hm =>
    intro n hn
    have := (List.getElem?_eq_some_iff.mp h).1
    simp only [AV.keep]
    rw [if_pos (by simp; omega)]
  | ns a => intros; rfl
  | junk x => intros; rfl
theorem Lie.le.to_at {p : Lie} {k o : Nat} (h : p.le (.at k o)) : p = .at k o := by cases h; rfl
theorem Lie.le.to_mpl {p : Lie} {k : Nat} (h : p.le (.mpl k)) : p = .mpl k := by cases h; rfl

/-- the boxes that a call made are not looked at -/
theorem Sound.drop {f : FuncId} {args : List AV} {bx t : Bx} {r : AV} (h : Sound P f args bx r (bx ++ t)) (hr : r.keep (fun b => decide (b < bx.length)) = r) : Sound P f args bx r bx := by
  refine ⟨h.1, fun G w β vs hz hM hs hv => (h.2 G w β vs hz hM hs hv).mono ?_⟩
  rintro e w' ⟨v, β', rfl, x, m, hvr⟩
  obtain ⟨m2, x2⟩ := m.trunc bx.length
  rw [List.take_left' rfl] at m2
  have hcl : ∀ {x : AV} {y : Value}, VR w (im G w β) β x y → x.keep (fun b => decide (b < bx.length)) = x := fun hx => hx.closed (by rw [hM.len]; exact Nat.le_refl _)
  have hb : ∀ (b : Nat) (p : Lie), (β'.take bx.length)[b]? = some p → ∃ p0, β[b]? = some p0 ∧ p0.le p := by
    intro b p hp
    rw [List.getElem?_take] at hp
    split at hp
    · rename_i hlt
      obtain ⟨p', h1, h2⟩ := x.bt b _ (by simpa using hlt) (List.getElem?_eq_getElem (by rw [hM.len]; exact hlt))
      rw [hp] at h1
      simp only [Option.some.injEq] at h1
      subst h1
      exact ⟨_, List.getElem?_eq_getElem (by rw [hM.len]; exact hlt), h2⟩
    · simp at hp
  refine ⟨v, β'.take bx.length, rfl, x.trans x2, ⟨by simpa using m2.len, m2.uniq, ?_, ?_, ?_, m2.frle, m2.leold, m2.sz⟩, by rw [← hr]; exact x2.vrk hvr⟩
  · intro b k o l hp hl
    obtain ⟨p0, h1, h2⟩ := hb b _ hp
    have := h2.to_at
    subst this
    obtain ⟨c0, E0, fz0, g1, g2, _, _, g5⟩ := hM.born b k o l h1 hl
    obtain ⟨c, E, fz, k1, k2, k3, k4, k5⟩ := m2.born b k o (l.map (AV.keep fun b => decide (b < bx.length))) hp (by rw [List.getElem?_map, hl]; rfl)
    refine ⟨c, E, fz, k1, by simpa using k2, k3, k4, fun i x y hx hy => ?_⟩
    have hi : i < l.length := (List.getElem?_eq_some_iff.mp hx).1
    have := hcl (g5 i x _ hx (Array.getElem?_eq_getElem (by omega)))
    rw [← this]
    exact k5 i _ y (by rw [List.getElem?_map, hx]; rfl) hy
  · intro b k l hp hl
    obtain ⟨p0, h1, h2⟩ := hb b _ hp
    have := h2.to_mpl
    subst this
    obtain ⟨es0, cl0, _, t0, rfl, g2, g3⟩ := hM.maps b k l h1 hl
    obtain ⟨es, cl, k1, k2⟩ := m2.maps b k _ hp (by rw [List.getElem?_map, hl]; rfl)
    refine ⟨es, cl, k1, ?_⟩
    have hid : (stH cl0 (es0.toList.map (·.born)) :: t0).map (AV.keep fun b => decide (b < bx.length)) = stH cl0 (es0.toList.map (·.born)) :: t0 := by
      rw [List.map_cons, stH_keep]
      congr 1
      refine List.ext_getElem? fun i => ?_
      rw [List.getElem?_map]
      rcases Nat.lt_or_ge i t0.length with hi | hi
      · have q1 : t0[i]? = some t0[i] := List.getElem?_eq_getElem hi
        obtain ⟨x', q3, q4⟩ := g3 i _ _ q1 (List.getElem?_eq_getElem (by omega))
        rw [q1, Option.map_some, q3]
        simp only [AV.keep, AV.keepL]
        rw [hcl q4]
      · rw [List.getElem?_eq_none hi]; rfl
    have k3 : MpR _ _ _ ((stH cl0 (es0.toList.map (·.born)) :: t0).map (AV.keep fun b => decide (b < bx.length))) es cl := k2
    rw [hid] at k3
    exact k3
  · intro b e g l hp hl
    have hk : GrR w' e g (l.map (AV.keep fun b => decide (b < bx.length))) := m2.grs b e g _ hp (by rw [List.getElem?_map, hl]; rfl)
    obtain ⟨p0, h1, h2⟩ := hb b _ hp
    have hid : l.map (AV.keep fun b => decide (b < bx.length)) = l := by
      cases h2 with
      | refl => exact (hM.grs b e g l h1 hl).same _ (fun v => rfl)
      | gr _ g0 _ hh => exact (hM.grs b e g0 l h1 hl).same _ (fun v => rfl)
    rw [hid] at hk
    exact hk

/-- a call that is handed plain values alone, among any boxes -/
theorem Sound.lift {f : FuncId} {args : List AV} {b0 : Bx} {y : Value} (h : Sound P f args [] (.v y) b0) (ha : ∀ x ∈ args, isV x = true) (bx : Bx) : Sound P f args bx (.v y) bx := by
  refine ⟨h.1, fun G w β vs hz hM hs hv => (h.2 (G.call w β) w [] vs rfl hM.call hs ?_).mono ?_⟩
  · intro i x v hx hvv
    have := ha x (List.mem_of_getElem? hx)
    have hvr := hv i x v hx hvv
    cases x <;> simp [isV] at this
    cases hvr
    exact .v _
  · rintro e w' ⟨v, β', rfl, g1, g2, g3⟩
    obtain ⟨m1, e1⟩ := hM.back g1
    cases g3
    exact ⟨_, β, rfl, e1.weaken fun _ _ => rfl, m1, .v _⟩
end

theorem eqBx_refl : ∀ {bx : Bx}, (∀ l ∈ bx, eqCs l l = true) → eqBx bx bx = true
  | [], _ => rfl
  | l :: bx, h => by
    simp only [eqBx, Bool.and_eq_true]
    exact ⟨h l (by simp), eqBx_refl fun m hm => h m (by simp [hm])⟩
theorem eqCs_u8l (b : List UInt8) : eqCs (u8l b) (u8l b) = true := by
  induction b with
  | nil => rfl
  | cons x b ih =>
    show eqCs (.v (.int .u8 _) :: u8l b) (.v (.int .u8 _) :: u8l b) = true
    simp only [eqCs, eqC, eqD, eqV, ih, decide_true, beq_self_eq_true, Bool.and_self]
end Go.Sy

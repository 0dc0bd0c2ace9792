/-
  What it is for values as data to stand for the machine's values and memory ('VR', 'MR'), and that this lasts while memory grows.
-/
import Derived.Test.YtmkdhgigghgieaaSyDef
namespace Go.Sy

/-- where a growing list lay, or lies, when it had so many elements -/
structure GrE where
  n : Nat
  blk : Nat
  off : Nat
  cap : Nat
/-- where a box lies: at a block's cell; nowhere yet; it is not there yet; 'gr': a list that only grows: where it lay, size by size -/
inductive Lie where
  | at (blk off : Nat)
  | mpl (blk : Nat)
  | un
  | ab
  | gr (e : Nat) (h : List GrE)

abbrev Beta := List Lie

/-- in which block a box lies -/
def Lie.lies : Lie → Nat → Prop
  | .at k _, b => k = b
  | .mpl k, b => k = b
  | .gr _ h, b => ∃ x ∈ h, x.blk = b
  | _, _ => False

/-- A box stays where it is; a growing list keeps the places where it lay. -/
inductive Lie.le : Lie → Lie → Prop
  | refl (p : Lie) : Lie.le p p
  | gr (e : Nat) (h h' : List GrE) (hh : ∀ x ∈ h, x ∈ h') : Lie.le (.gr e h) (.gr e h')
theorem Lie.le.trans {p q r : Lie} (h : p.le q) (h' : q.le r) : p.le r := by
  cases h with
  | refl => exact h'
  | gr e h1 h2 hh =>
    cases h' with
    | refl => exact .gr e h1 h2 hh
    | gr _ _ h3 hh' => exact .gr e h1 h3 fun x hx => hh' x (hh x hx)
theorem Lie.le.at {k o : Nat} {q : Lie} (h : (Lie.at k o).le q) : q = .at k o := by cases h; rfl
theorem Lie.le.mpl {k : Nat} {q : Lie} (h : (Lie.mpl k).le q) : q = .mpl k := by cases h; rfl
theorem Lie.le.un {q : Lie} (h : Lie.un.le q) : q = .un := by cases h; rfl
theorem Lie.le.ab {q : Lie} (h : Lie.ab.le q) : q = .ab := by cases h; rfl
theorem Lie.le.gr' {e : Nat} {l : List GrE} {q : Lie} (h : (Lie.gr e l).le q) : ∃ l', q = .gr e l' ∧ ∀ x ∈ l, x ∈ l' := by
  cases h with
  | refl => exact ⟨l, rfl, fun _ h => h⟩
  | gr _ _ l' hh => exact ⟨l', rfl, hh⟩
/-- as a rule: it stays -/
def LeB (q : Nat → Bool) (β β' : Beta) : Prop := ∀ (b : Nat) (p : Lie), q b = true → β[b]? = some p → ∃ p', β'[b]? = some p' ∧ p.le p'
theorem LeB.same {q : Nat → Bool} {β β' : Beta} (h : ∀ (b : Nat) (p : Lie), q b = true → β[b]? = some p → β'[b]? = some p) : LeB q β β' := fun b p hq hb => ⟨p, h b p hq hb, .refl p⟩
theorem LeB.at {q : Nat → Bool} {β β' : Beta} (h : LeB q β β') {b k o : Nat} (hq : q b = true) (hb : β[b]? = some (.at k o)) : β'[b]? = some (.at k o) := by
  obtain ⟨p, h1, h2⟩ := h b _ hq hb; rw [h1, h2.at]
theorem LeB.mpl {q : Nat → Bool} {β β' : Beta} (h : LeB q β β') {b k : Nat} (hq : q b = true) (hb : β[b]? = some (.mpl k)) : β'[b]? = some (.mpl k) := by
  obtain ⟨p, h1, h2⟩ := h b _ hq hb; rw [h1, h2.mpl]
theorem LeB.ab {q : Nat → Bool} {β β' : Beta} (h : LeB q β β') {b : Nat} (hq : q b = true) (hb : β[b]? = some .ab) : β'[b]? = some .ab := by
  obtain ⟨p, h1, h2⟩ := h b _ hq hb; rw [h1, h2.ab]

/-- A value as data stands for a machine's value, in a world; 'im': where cells lie that nobody changes. -/
inductive VR (w : World) : (Bool → Nat → Prop) → Beta → AV → Value → Prop
  | v {im β} (x : Value) : VR w im β (.v x) x
  | agg {im β} (l : List AV) (c : Array Value) (hs : c.size = l.length) (ho : ∀ (i : Nat) (y : Value), c[i]? = some y → y.oneCell' = true)
      (h : ∀ (i : Nat) (x : AV) (y : Value), l[i]? = some x → c[i]? = some y → VR w im β x y) : VR w im β (.agg l) (.agg c)
  | tup {im β} (l : List AV) (c : Array Value) (hs : c.size = l.length)
      (h : ∀ (i : Nat) (x : AV) (y : Value), l[i]? = some x → c[i]? = some y → VR w im β x y) : VR w im β (.tup l) (.tuple c)
  | sl {im β} (n : Nat) (l : List AV) (f : Bool) (a : Option Addr) (cap blk off : Nat) (cv : Nat → Value) (hn : n ≤ cap)
      (ha : (n = 0 ∧ l = []) ∨ (a = some ⟨blk, off, none⟩ ∧ im f blk))
      (hc : ∀ i, i < l.length → w.cell? ⟨blk, off + i, none⟩ = some (cv i) ∧ (cv i).oneCell' = true)
      (h : ∀ (i : Nat) (x : AV), l[i]? = some x → VR w (fun b => im (f && b)) [] x (cv i)) : VR w im β (.sl n l f) (.slice a n cap)
  | ip {im β} (l : List AV) (f : Bool) (blk off : Nat) (cv : Nat → Value)
      (ha : l = [] ∨ im f blk)
      (hc : ∀ i, i < l.length → w.cell? ⟨blk, off + i, none⟩ = some (cv i) ∧ (cv i).oneCell' = true)
      (h : ∀ (i : Nat) (x : AV), l[i]? = some x → VR w (fun b => im (f && b)) [] x (cv i)) : VR w im β (.ip l f) (.pointer (some ⟨blk, off, none⟩))
  | bp {im β} (b off blk o : Nat) (hb : β[b]? = some (.at blk o)) : VR w im β (.bp b off) (.pointer (some ⟨blk, o + off, none⟩))
  | bsl {im β} (b off n e blk o : Nat) (a : Addr) (cap : Nat) (hb : β[b]? = some (.at blk o)) (hn : n ≤ cap) (he : 0 < e)
      (ha : a = ⟨blk, o + off, none⟩ ∨ (cap = 0 ∧ a.block = blk)) (hc : ∃ (c : Array Value) (E : TypeId) (fz : Nat × Nat), w.heap[blk]? = some (.cells c E fz) ∧ o + off + cap * e ≤ c.size) :
      VR w im β (.bsl b off n e) (.slice (some a) n cap)
  | bslU {im β} (b off : Nat) (a : Option Addr) (hb : β[b]? = some .un) : VR w im β (.bsl b off 0 0) (.slice a 0 0)
  | fn {im β} (f : FuncId) (pre caps : List AV) (pv cv : Array Value) (hp : pv.size = pre.length) (hc : cv.size = caps.length)
      (h1 : ∀ (i : Nat) (x : AV) (y : Value), pre[i]? = some x → pv[i]? = some y → VR w im β x y) (h2 : ∀ (i : Nat) (x : AV) (y : Value), caps[i]? = some x → cv[i]? = some y → VR w im β x y) :
      VR w im β (.fn f pre caps) (.func (.func f) pv cv)
  | mp {im β} (b blk : Nat) (hb : β[b]? = some (.mpl blk)) : VR w im β (.mp b) (.map (some blk))
  | gs {im β} (b e : Nat) (h : List GrE) (x : GrE) (hb : β[b]? = some (.gr e h)) (hx : x ∈ h) : VR w im β (.gs b x.n e) (.slice (some ⟨x.blk, x.off, none⟩) x.n x.cap)
  | gp {im β} (b o m e : Nat) (h : List GrE) (x : GrE) (hb : β[b]? = some (.gr e h)) (hx : x ∈ h) (hm : o + m ≤ x.n * e) : VR w im β (.gp b o m) (.pointer (some ⟨x.blk, x.off + o, none⟩))
  | ns {im β} (a : Option Addr) : VR w im β .ns (.slice a 0 0)
  | junk {im β} (x : Value) : VR w im β .junk x

theorem VR.mono {w w' : World} {im : Bool → Nat → Prop} {β : Beta} {x : AV} {y : Value} (h : VR w im β x y) :
    ∀ {im' : Bool → Nat → Prop} {β' : Beta}, (∀ f blk, im f blk → im' f blk ∧ ∀ o, w'.cell? ⟨blk, o, none⟩ = w.cell? ⟨blk, o, none⟩) →
    (∀ (b : Nat) (p : Lie), p ≠ .ab → β[b]? = some p → ∃ p', β'[b]? = some p' ∧ p.le p') →
    (∀ (b blk o : Nat) (c : Array Value) (E : TypeId) (fz : Nat × Nat), β[b]? = some (.at blk o) → w.heap[blk]? = some (.cells c E fz) → ∃ (c' : Array Value) (E' : TypeId) (fz' : Nat × Nat), w'.heap[blk]? = some (.cells c' E' fz') ∧ c'.size = c.size) →
    VR w' im' β' x y := by
  induction h with
  | v x => intros; exact .v x
  | agg l c hs ho h ih => intro im' β' hi hb hs'; exact .agg l c hs ho fun i x y h1 h2 => ih i x y h1 h2 hi hb hs'
  | tup l c hs h ih => intro im' β' hi hb hs'; exact .tup l c hs fun i x y h1 h2 => ih i x y h1 h2 hi hb hs'
  | sl n l f a cap blk off cv hn ha hc h ih =>
    intro im' β' hi hb hs'
    refine .sl n l f a cap blk off cv hn (ha.imp id fun h => ⟨h.1, (hi _ _ h.2).1⟩) ?_ fun i x hx => ih i x hx (fun g blk hg => hi _ blk hg) (fun b p _ h => by simp at h) (fun b blk o c E fz h => by simp at h)
    intro i hl
    rcases ha with ⟨_, rfl⟩ | ⟨_, hm⟩
    · simp at hl
    · rw [(hi _ _ hm).2]; exact hc i hl
  | ip l f blk off cv ha hc h ih =>
    intro im' β' hi hb hs'
    refine .ip l f blk off cv (ha.imp id fun h => (hi _ _ h).1) ?_ fun i x hx => ih i x hx (fun g blk hg => hi _ blk hg) (fun b p _ h => by simp at h) (fun b blk o c E fz h => by simp at h)
    intro i hl
    rcases ha with rfl | hm
    · simp at hl
    · rw [(hi _ _ hm).2]; exact hc i hl
  | bp b off blk o h =>
    intro im' β' hi hb hs'
    obtain ⟨p', h1, h2⟩ := hb _ _ (by simp) h
    exact .bp b off blk o (by rw [h1, h2.at])
  | bsl b off n e blk o a cap h hn he ha hc =>
    intro im' β' hi hb hs'
    obtain ⟨c, E, fz, h1, h2⟩ := hc
    obtain ⟨c', E', fz', h3, h4⟩ := hs' b blk o c E fz h h1
    obtain ⟨p', k1, k2⟩ := hb _ _ (by simp) h
    exact .bsl b off n e blk o a cap (by rw [k1, k2.at]) hn he ha ⟨c', E', fz', h3, by omega⟩
  | bslU b off a h =>
    intro im' β' hi hb hs'
    obtain ⟨p', h1, h2⟩ := hb _ _ (by simp) h
    exact .bslU b off a (by rw [h1, h2.un])
  | fn f pre caps pv cv hp hc h1 h2 ih1 ih2 =>
    intro im' β' hi hb hs'
    exact .fn f pre caps pv cv hp hc (fun i x y a b => ih1 i x y a b hi hb hs') fun i x y a b => ih2 i x y a b hi hb hs'
  | mp b blk h =>
    intro im' β' hi hb hs'
    obtain ⟨p', h1, h2⟩ := hb _ _ (by simp) h
    exact .mp b blk (by rw [h1, h2.mpl])
  | gs b e l x h hx =>
    intro im' β' hi hb hs'
    obtain ⟨p', h1, h2⟩ := hb _ _ (by simp) h
    obtain ⟨l', rfl, h3⟩ := h2.gr'
    exact .gs b e l' x h1 (h3 x hx)
  | gp b o m e l x h hx hm =>
    intro im' β' hi hb hs'
    obtain ⟨p', h1, h2⟩ := hb _ _ (by simp) h
    obtain ⟨l', rfl, h3⟩ := h2.gr'
    exact .gp b o m e l' x h1 (h3 x hx) hm
  | ns a => intros; exact .ns a
  | junk x => intros; exact .junk x

theorem VR.keep {w w' : World} {im : Bool → Nat → Prop} {β : Beta} {x : AV} {y : Value} (h : VR w im β x y) (q : Nat → Bool) :
    ∀ {im' : Bool → Nat → Prop} {β' : Beta}, (∀ f blk, im f blk → im' f blk ∧ ∀ o, w'.cell? ⟨blk, o, none⟩ = w.cell? ⟨blk, o, none⟩) →
    (∀ (b : Nat) (p : Lie), q b = true → p ≠ .ab → β[b]? = some p → ∃ p', β'[b]? = some p' ∧ p.le p') →
    (∀ (b blk o : Nat) (c : Array Value) (E : TypeId) (fz : Nat × Nat), q b = true → β[b]? = some (.at blk o) → w.heap[blk]? = some (.cells c E fz) → ∃ (c' : Array Value) (E' : TypeId) (fz' : Nat × Nat), w'.heap[blk]? = some (.cells c' E' fz') ∧ c'.size = c.size) →
    VR w' im' β' (x.keep q) y := by
  induction h with
  | v x => intros; simp only [AV.keep]; exact .v x
  | agg l c hs ho h ih =>
    intro im' β' hi hb hs'
    simp only [AV.keep, AV.keepL_eq]
    refine .agg _ c (by simpa using hs) ho fun i x y h1 h2 => ?_
    rw [List.getElem?_map, Option.map_eq_some_iff] at h1
    obtain ⟨x0, h1, rfl⟩ := h1
    exact ih i x0 y h1 h2 hi hb hs'
  | tup l c hs h ih =>
    intro im' β' hi hb hs'
    simp only [AV.keep, AV.keepL_eq]
    refine .tup _ c (by simpa using hs) fun i x y h1 h2 => ?_
    rw [List.getElem?_map, Option.map_eq_some_iff] at h1
    obtain ⟨x0, h1, rfl⟩ := h1
    exact ih i x0 y h1 h2 hi hb hs'
  | sl n l f a cap blk off cv hn ha hc h ih =>
    intro im' β' hi hb hs'
    simp only [AV.keep]
    exact (VR.sl n l f a cap blk off cv hn ha hc h : VR w _ _ _ _).mono hi (β := []) (fun b p _ h => by simp at h) (fun b blk o c E fz h => by simp at h)
  | ip l f blk off cv ha hc h ih =>
    intro im' β' hi hb hs'
    simp only [AV.keep]
    exact (VR.ip l f blk off cv ha hc h : VR w _ _ _ _).mono hi (β := []) (fun b p _ h => by simp at h) (fun b blk o c E fz h => by simp at h)
  | bp b off blk o h =>
    intro im' β' hi hb hs'
    simp only [AV.keep]
    split
    · obtain ⟨p', h1, h2⟩ := hb _ _ ‹_› (by simp) h
      exact .bp b off blk o (by rw [h1, h2.at])
    · exact .junk _
  | bsl b off n e blk o a cap h hn he ha hc =>
    intro im' β' hi hb hs'
    simp only [AV.keep]
    split
    · obtain ⟨c, E, fz, h1, h2⟩ := hc
      obtain ⟨c', E', fz', h3, h4⟩ := hs' b blk o c E fz ‹_› h h1
      obtain ⟨p', k1, k2⟩ := hb _ _ ‹_› (by simp) h
      exact .bsl b off n e blk o a cap (by rw [k1, k2.at]) hn he ha ⟨c', E', fz', h3, by omega⟩
    · exact .junk _
  | bslU b off a h =>
    intro im' β' hi hb hs'
    simp only [AV.keep]
    split
    · obtain ⟨p', h1, h2⟩ := hb _ _ ‹_› (by simp) h
      exact .bslU b off a (by rw [h1, h2.un])
    · exact .junk _
  | fn f pre caps pv cv hp hc h1 h2 ih1 ih2 =>
    intro im' β' hi hb hs'
    simp only [AV.keep, AV.keepL_eq]
    refine .fn f _ _ pv cv (by simpa using hp) (by simpa using hc) (fun i x y a b => ?_) fun i x y a b => ?_
    · rw [List.getElem?_map, Option.map_eq_some_iff] at a
      obtain ⟨x0, a, rfl⟩ := a
      exact ih1 i x0 y a b hi hb hs'
    · rw [List.getElem?_map, Option.map_eq_some_iff] at a
      obtain ⟨x0, a, rfl⟩ := a
      exact ih2 i x0 y a b hi hb hs'
  | mp b blk h =>
    intro im' β' hi hb hs'
    simp only [AV.keep]
    split
    · obtain ⟨p', h1, h2⟩ := hb _ _ ‹_› (by simp) h
      exact .mp b blk (by rw [h1, h2.mpl])
    · exact .junk _
  | gs b e l x h hx =>
    intro im' β' hi hb hs'
    simp only [AV.keep]
    split
    · obtain ⟨p', h1, h2⟩ := hb _ _ ‹_› (by simp) h
      obtain ⟨l', rfl, h3⟩ := h2.gr'
      exact .gs b e l' x h1 (h3 x hx)
    · exact .junk _
  | gp b o m e l x h hx hm =>
    intro im' β' hi hb hs'
    simp only [AV.keep]
    split
    · obtain ⟨p', h1, h2⟩ := hb _ _ ‹_› (by simp) h
      obtain ⟨l', rfl, h3⟩ := h2.gr'
      exact .gp b o m e l' x h1 (h3 x hx) hm
    · exact .junk _
  | ns a => intros; simp only [AV.keep]; exact .ns a
  | junk x => intros; simp only [AV.keep]; exact .junk x

/-- A call's own view: how many blocks there were when it began; which of these nobody will change, and which nobody changes while it runs. -/
structure Gh where
  z0 : Nat
  fr : Nat → Prop
  le : Nat → Prop

def owned (β : Beta) (blk : Nat) : Prop := ∃ (b : Nat) (p : Lie), β[b]? = some p ∧ p.lies blk
theorem owned_at {β : Beta} {b blk o : Nat} (h : β[b]? = some (.at blk o)) : owned β blk := ⟨b, _, h, rfl⟩
theorem owned_mp {β : Beta} {b blk : Nat} (h : β[b]? = some (.mpl blk)) : owned β blk := ⟨b, _, h, rfl⟩

/-- a map's head: its clock, its entries' stamps -/
def stH (cl : Nat) (bs : List Nat) : AV := .tup (.v (.int .i64 (cl : Int)) :: bs.map fun (n : Nat) => .v (.int .i64 (n : Int)))
theorem stH_keep (q : Nat → Bool) (cl : Nat) (bs : List Nat) : (stH cl bs).keep q = stH cl bs := by
  simp [stH, AV.keep, AV.keepL, AV.keepL_eq, List.map_map, Function.comp_def]
theorem stH_bare (cl : Nat) (bs : List Nat) : (stH cl bs).bare = stH cl bs := by
  simp [stH, AV.bare, AV.bareL, AV.bareL_eq, List.map_map, Function.comp_def]
/-- A map's entries, and what stands for them. -/
def EsR (w : World) (im0 : Bool → Nat → Prop) (β : Beta) (l : List AV) (es : List MapEntry) : Prop :=
  es.length = l.length ∧ ∀ (i : Nat) (x : AV) (e : MapEntry), l[i]? = some x → es[i]? = some e → ∃ x', x = .tup [.v e.key, x'] ∧ VR w im0 β x' e.val
def MpR (w : World) (im : Bool → Nat → Prop) (β : Beta) (l : List AV) (es : Array MapEntry) (cl : Nat) : Prop :=
  ∃ t, l = stH cl (es.toList.map (·.born)) :: t ∧ EsR w im β t es.toList
theorem MpR.map {w w' : World} {im im' : Bool → Nat → Prop} {β β' : Beta} {l : List AV} {es : Array MapEntry} {cl : Nat} (h : MpR w im β l es cl) (q : Nat → Bool)
    (hv : ∀ (x : AV) (y : Value), VR w im β x y → VR w' im' β' (x.keep q) y) : MpR w' im' β' (l.map (AV.keep q)) es cl := by
  obtain ⟨t, rfl, h⟩ := h
  refine ⟨t.map (AV.keep q), by rw [List.map_cons, stH_keep], by simpa using h.1, fun i x e h1 h2 => ?_⟩
  rw [List.getElem?_map, Option.map_eq_some_iff] at h1
  obtain ⟨x0, h1, rfl⟩ := h1
  obtain ⟨x', rfl, hx⟩ := h.2 i x0 e h1 h2
  exact ⟨x'.keep q, by simp [AV.keep, AV.keepL], hv _ _ hx⟩
theorem MpR.imp {w w' : World} {im im' : Bool → Nat → Prop} {β β' : Beta} {l : List AV} {es : Array MapEntry} {cl : Nat} (h : MpR w im β l es cl)
    (hv : ∀ (x : AV) (y : Value), VR w im β x y → VR w' im' β' x y) : MpR w' im' β' l es cl := by
  obtain ⟨t, rfl, h⟩ := h
  refine ⟨t, rfl, h.1, fun i x e h1 h2 => ?_⟩
  obtain ⟨x', rfl, hx⟩ := h.2 i x e h1 h2
  exact ⟨x', rfl, hv _ _ hx⟩

/-- A growing list: plain values; wherever it lay they still lie, so many as it had there. -/
def GrR (w : World) (e : Nat) (h : List GrE) (l : List AV) : Prop :=
  0 < e ∧ ∃ vs : List Value, l = vs.map .v ∧ ∀ x ∈ h, x.n ≤ x.cap ∧ x.n * e ≤ vs.length ∧ (∀ y ∈ h, y.blk = x.blk → y.off = x.off ∧ y.cap = x.cap) ∧
    ∃ (c : Array Value) (E : TypeId) (fz : Nat × Nat), w.heap[x.blk]? = some (.cells c E fz) ∧ x.off + x.cap * e ≤ c.size ∧ (fz = (0, 0) ∨ c.size ≤ fz.1) ∧ (∀ (i : Nat) (y : Value), c[i]? = some y → y.oneCell' = true) ∧
      ∀ i, i < x.n * e → c[x.off + i]? = vs[i]?
theorem GrR.heap {w w' : World} {e : Nat} {h : List GrE} {l : List AV} (hg : GrR w e h l) (hw : ∀ k, (Lie.gr e h).lies k → w'.heap[k]? = w.heap[k]?) : GrR w' e h l := by
  obtain ⟨he, vs, hl, hg⟩ := hg
  refine ⟨he, vs, hl, fun x hx => ?_⟩
  obtain ⟨h1, h2, h3, c, E, fz, h4, h5⟩ := hg x hx
  exact ⟨h1, h2, h3, c, E, fz, by rw [hw _ ⟨x, hx, rfl⟩]; exact h4, h5⟩
theorem GrR.same {w : World} {e : Nat} {h : List GrE} {l : List AV} (hg : GrR w e h l) (f : AV → AV) (hf : ∀ v, f (.v v) = .v v) : l.map f = l := by
  obtain ⟨_, vs, rfl, _⟩ := hg
  rw [List.map_map]
  exact List.map_congr_left fun v _ => hf v
theorem GrR.keep {w : World} {e : Nat} {h : List GrE} {l : List AV} (hg : GrR w e h l) (q : Nat → Bool) : GrR w e h (l.map (AV.keep q)) := by
  rw [hg.same _ fun v => rfl]; exact hg

def im (G : Gh) (w : World) (β : Beta) (f : Bool) (blk : Nat) : Prop :=
  (if f then G.le blk else G.fr blk) ∨ (G.z0 ≤ blk ∧ blk < w.heap.size ∧ ¬ owned β blk)

/-- Memory, and the boxes that stand for it. -/
structure MR (G : Gh) (w : World) (β : Beta) (bx : Bx) : Prop where
  len : β.length = bx.length
  uniq : ∀ (b b' blk : Nat) (p p' : Lie), β[b]? = some p → β[b']? = some p' → p.lies blk → p'.lies blk → b = b'
  born : ∀ (b blk o : Nat) (l : List AV), β[b]? = some (.at blk o) → bx[b]? = some l →
    ∃ (c : Array Value) (E : TypeId) (fz : Nat × Nat), w.heap[blk]? = some (.cells c E fz) ∧ o + l.length ≤ c.size ∧ (fz = (0, 0) ∨ c.size ≤ fz.1) ∧ (∀ (i : Nat) (y : Value), c[i]? = some y → y.oneCell' = true) ∧
      ∀ (i : Nat) (x : AV) (y : Value), l[i]? = some x → c[o + i]? = some y → VR w (im G w β) β x y
  maps : ∀ (b blk : Nat) (l : List AV), β[b]? = some (.mpl blk) → bx[b]? = some l → ∃ (es : Array MapEntry) (clock : Nat), w.heap[blk]? = some (.map es clock) ∧ MpR w (im G w β) β l es clock
  grs : ∀ (b e : Nat) (h : List GrE) (l : List AV), β[b]? = some (.gr e h) → bx[b]? = some l → GrR w e h l
  frle : ∀ blk, G.fr blk → G.le blk
  leold : ∀ blk, G.le blk → blk < G.z0 ∧ ¬ owned β blk
  sz : G.z0 ≤ w.heap.size

theorem MR.inj {G : Gh} {w : World} {β : Beta} {bx : Bx} (h : MR G w β bx) (b b' blk o o' : Nat) (h1 : β[b]? = some (.at blk o)) (h2 : β[b']? = some (.at blk o')) : b = b' := h.uniq b b' blk _ _ h1 h2 rfl rfl

theorem MR.lies_lt {G : Gh} {w : World} {β : Beta} {bx : Bx} (h : MR G w β bx) {b k : Nat} {p : Lie} (hb : β[b]? = some p) (hp : p.lies k) : k < w.heap.size := by
  have hlt : b < bx.length := by have := (List.getElem?_eq_some_iff.mp hb).1; rw [h.len] at this; exact this
  match p, hp with
  | .at _ o, rfl =>
    obtain ⟨c1, E1, fz1, h1, _⟩ := h.born b k o _ hb (List.getElem?_eq_getElem hlt)
    exact (Array.getElem?_eq_some_iff.mp h1).1
  | .mpl _, rfl =>
    obtain ⟨es, cl, h1, _⟩ := h.maps b k _ hb (List.getElem?_eq_getElem hlt)
    exact (Array.getElem?_eq_some_iff.mp h1).1
  | .gr e g, ⟨x, hx, hk⟩ =>
    obtain ⟨_, vs, _, hg⟩ := h.grs b e g _ hb (List.getElem?_eq_getElem hlt)
    obtain ⟨_, _, _, c, E, fz, h1, _⟩ := hg x hx
    exact hk ▸ (Array.getElem?_eq_some_iff.mp h1).1

/-- what becomes of the growing lists, where nothing of theirs was touched -/
theorem MR.grsk {G : Gh} {w w' : World} {β : Beta} {bx : Bx} (h : MR G w β bx) {b e : Nat} {g : List GrE} {l : List AV} (hb : β[b]? = some (.gr e g)) (hl : bx[b]? = some l)
    (hw : ∀ k, k < w.heap.size → (Lie.gr e g).lies k → w'.heap[k]? = w.heap[k]?) : GrR w' e g l :=
  (h.grs b e g l hb hl).heap fun k hk => hw k (h.lies_lt hb hk) hk

/-- How a world goes on: what a call does to memory; 'q': the boxes that stay where they are. -/
structure Ext (G : Gh) (q : Nat → Bool) (w : World) (β : Beta) (w' : World) (β' : Beta) : Prop where
  sz : w.heap.size ≤ w'.heap.size
  old : ∀ blk, blk < G.z0 → ¬ owned β blk → w'.heap[blk]? = w.heap[blk]?
  imk : ∀ f blk, im G w β f blk → im G w' β' f blk ∧ ∀ o, w'.cell? ⟨blk, o, none⟩ = w.cell? ⟨blk, o, none⟩
  bt : LeB q β β'
  shp : ∀ (b blk o : Nat) (c : Array Value) (E : TypeId) (fz : Nat × Nat), q b = true → β[b]? = some (.at blk o) → w.heap[blk]? = some (.cells c E fz) →
    ∃ (c' : Array Value) (fz' : Nat × Nat), w'.heap[blk]? = some (.cells c' E fz') ∧ c'.size = c.size
  own' : ∀ blk, blk < G.z0 → owned β' blk → owned β blk
  out : w'.os = w.os ∧ w'.output = w.output ∧ w'.tape = w.tape

abbrev allq : Nat → Bool := fun _ => true

theorem Ext.refl (G : Gh) (q : Nat → Bool) (w : World) (β : Beta) : Ext G q w β w β :=
  ⟨Nat.le_refl _, fun _ _ _ => rfl, fun _ _ h => ⟨h, fun _ => rfl⟩, .same fun _ _ _ h => h, fun _ _ _ c _ fz _ _ h => ⟨c, fz, h, rfl⟩, fun _ _ h => h, ⟨rfl, rfl, rfl⟩⟩

theorem Ext.trans {G : Gh} {q : Nat → Bool} {w w1 w2 : World} {β β1 β2 : Beta} (h : Ext G q w β w1 β1) (h' : Ext G q w1 β1 w2 β2) : Ext G q w β w2 β2 where
  sz := Nat.le_trans h.sz h'.sz
  old blk hb ho := by rw [h'.old blk hb (fun hx => ho (h.own' blk hb hx)), h.old blk hb ho]
  imk f blk hi := ⟨(h'.imk f blk (h.imk f blk hi).1).1, fun o => by rw [(h'.imk f blk (h.imk f blk hi).1).2, (h.imk f blk hi).2]⟩
  bt b p hq hb := by
    obtain ⟨p1, h1, g1⟩ := h.bt b p hq hb
    obtain ⟨p2, h2, g2⟩ := h'.bt b p1 hq h1
    exact ⟨p2, h2, g1.trans g2⟩
  shp b blk o c E fz hq hb hc := by
    obtain ⟨c1, fz1, h1, e1⟩ := h.shp b blk o c E fz hq hb hc
    obtain ⟨c2, fz2, h2, e2⟩ := h'.shp b blk o c1 E fz1 hq (h.bt.at hq hb) h1
    exact ⟨c2, fz2, h2, by omega⟩
  own' blk hb ho := h.own' blk hb (h'.own' blk hb ho)
  out := ⟨h'.out.1.trans h.out.1, h'.out.2.1.trans h.out.2.1, h'.out.2.2.trans h.out.2.2⟩

theorem Ext.weaken {G : Gh} {q q' : Nat → Bool} {w w' : World} {β β' : Beta} (h : Ext G q w β w' β') (hq : ∀ b, q' b = true → q b = true) : Ext G q' w β w' β' :=
  ⟨h.sz, h.old, h.imk, fun b p hb => h.bt b p (hq b hb), fun b blk o c E fz hb => h.shp b blk o c E fz (hq b hb), h.own', h.out⟩

theorem Ext.vr {G : Gh} {w w' : World} {β β' : Beta} (h : Ext G allq w β w' β') {x : AV} {y : Value} (hv : VR w (im G w β) β x y) : VR w' (im G w' β') β' x y :=
  hv.mono h.imk (fun b p _ hb => h.bt b p rfl hb) fun b blk o c E fz hb hc => let ⟨c', fz', h1, h2⟩ := h.shp b blk o c E fz rfl hb hc; ⟨c', E, fz', h1, h2⟩

theorem Ext.vrk {G : Gh} {q : Nat → Bool} {w w' : World} {β β' : Beta} (h : Ext G q w β w' β') {x : AV} {y : Value} (hv : VR w (im G w β) β x y) : VR w' (im G w' β') β' (x.keep q) y :=
  hv.keep q h.imk (fun b p hq _ hb => h.bt b p hq hb) fun b blk o c E fz hq hb hc => let ⟨c', fz', h1, h2⟩ := h.shp b blk o c E fz hq hb hc; ⟨c', E, fz', h1, h2⟩

theorem MR.imle {G : Gh} {w : World} {β : Beta} {bx : Bx} (h : MR G w β bx) (f : Bool) {blk : Nat} (hi : im G w β false blk) : im G w β f blk := by
  cases f
  · exact hi
  · exact hi.imp (fun h1 => h.frle blk h1) id

/-- what lies behind a pointer to cells that nobody changes stands for the same in the call's own view -/
theorem MR.inner {G : Gh} {w : World} {β : Beta} {bx : Bx} (h : MR G w β bx) {f : Bool} {x : AV} {y : Value} (hv : VR w (fun b => im G w β (f && b)) [] x y) : VR w (im G w β) β x y :=
  hv.mono (fun g blk hg => ⟨by cases f <;> simp only [Bool.false_and, Bool.true_and] at hg <;> first | exact h.imle g hg | exact hg, fun _ => rfl⟩) (fun b p _ h => by simp at h) (fun b blk o c E fz h => by simp at h)

end Go.Sy

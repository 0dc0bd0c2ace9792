/-
  A law's arguments as data: what a call is handed, of any type out of whole numbers, bools, strings, slices, arrays and structs, is data that the reader takes; and it is handed back as it was.
-/
import Derived.Test.YtmkdhgigghgieaaSyLaw
import Derived.ChangeStays
import Derived.Deep.Slices
import Derived.OpenShut
namespace Go.Sy
open Go.ChangeShapes Go.WideShapes Go.RowKit Go.Deep

/-- the kind of a cell: a whole number, a bool, a string, a slice whose elements have such cells -/
inductive Sh where
  | int (k : IntKind) | bool | str | sl (row : List Sh)

def shpF (g : TypeId → Option (List Sh)) : List Field → Nat → Option (List Sh)
  | [], _ => some []
  | f :: fs, off => if f.offset ≠ off then none else (g f.type).bind fun l => (shpF g fs (off + l.length)).map fun m => l ++ m

/-- the kinds of a type's cells -/
def shp (P : Program) : Nat → TypeId → Option (List Sh)
  | 0, _ => none
  | d + 1, t => match P.underlying t with
    | some (.int k) => some [.int k]
    | some .bool => some [.bool]
    | some .string => some [.str]
    | some (.slice e) => (shp P d e).bind fun l => if P.cellsOf e = l.length ∧ 0 < l.length then some [.sl l] else none
    | some (.array n e) => (shp P d e).bind fun l => if P.cellsOf e = l.length ∧ P.cellsOf t = n * l.length then some (List.replicate n l).flatten else none
    | some (.struct fs) => (shpF (shp P d) fs.toList 0).bind fun l => if fs.toList.all (fun f => (shp P d f.type).map (·.length) == some (P.cellsOf f.type)) = true ∧ P.cellsOf t = l.length then some l else none
    | _ => none

/-- data of such a kind -/
inductive Fit : Sh → AV → Prop
  | int (k : IntKind) (n : Int) (h : (Lit.int k n).wf = true) : Fit (.int k) (.v (.int k n))
  | bool (b : Bool) : Fit .bool (.v (.bool b))
  | str (s : ByteArray) (h : s.size ≤ maxLen) : Fit .str (.v (.string s))
  | sl (row : List Sh) (n : Nat) (l : List AV) (hn : n ≤ maxLen) (hl : l.length = n * row.length) (h : ∀ (i : Nat) (x : AV) (c : Sh), l[i]? = some x → row[i % row.length]? = some c → Fit c x) : Fit (.sl row) (.sl n l true)

/-- cells of such kinds -/
def ShFits (row : List Sh) (l : List AV) : Prop := l.length = row.length ∧ ∀ (i : Nat) (x : AV) (c : Sh), l[i]? = some x → row[i]? = some c → Fit c x

/-- data that stands for cells -/
def FitV (W : World) (row : List Sh) (cs : List Value) : Prop :=
  cs.length = row.length ∧ ∀ (i : Nat) (c : Sh) (v : Value), row[i]? = some c → cs[i]? = some v → v.oneCell' = true ∧ ∃ a, Fit c a ∧ VR W (im (G0 W) W []) [] a v

theorem FitV.nil (W : World) : FitV W [] [] := ⟨rfl, fun i c v h => by simp at h⟩

theorem FitV.append {W : World} {r r' : List Sh} {cs cs' : List Value} (h : FitV W r cs) (h' : FitV W r' cs') : FitV W (r ++ r') (cs ++ cs') := by
  obtain ⟨h1, h2⟩ := h
  obtain ⟨h3, h4⟩ := h'
  refine ⟨by simp [h1, h3], fun i c v hc hv => ?_⟩
  by_cases hi : i < r.length
  · rw [List.getElem?_append_left hi] at hc
    rw [List.getElem?_append_left (by omega)] at hv
    exact h2 i c v hc hv
  · rw [List.getElem?_append_right (by omega)] at hc
    rw [List.getElem?_append_right (by omega), h1] at hv
    exact h4 _ c v hc hv

theorem FitV.fits {W : World} {row : List Sh} {cs : List Value} (h : FitV W row cs) :
    ∃ l, ShFits row l ∧ ∀ (i : Nat) (x : AV) (v : Value), l[i]? = some x → cs[i]? = some v → VR W (im (G0 W) W []) [] x v ∧ v.oneCell' = true := by
  obtain ⟨h1, h2⟩ := h
  obtain ⟨f, hf⟩ := choose_lt (n := row.length) (p := fun i a => ∀ (c : Sh) (v : Value), row[i]? = some c → cs[i]? = some v → v.oneCell' = true ∧ Fit c a ∧ VR W (im (G0 W) W []) [] a v) (fun i hi => by
    obtain ⟨ho, a, ha, hr⟩ := h2 i row[i] (cs[i]'(by omega)) (by simp) (by simp)
    refine ⟨a, fun c v hc hv => ?_⟩
    rw [List.getElem?_eq_getElem hi, Option.some.injEq] at hc
    rw [List.getElem?_eq_getElem (by omega), Option.some.injEq] at hv
    subst hc hv
    exact ⟨ho, ha, hr⟩)
  refine ⟨(List.range row.length).map f, ⟨by simp, fun i x c hx hc => ?_⟩, fun i x v hx hv => ?_⟩
  · have hi : i < row.length := (List.getElem?_eq_some_iff.1 hc).1
    rw [List.getElem?_map, List.getElem?_range hi] at hx
    simp only [Option.map_some, Option.some.injEq] at hx
    subst hx
    exact (hf i hi c (cs[i]'(by omega)) hc (by simp)).2.1
  · have hi : i < row.length := by rw [← h1]; exact (List.getElem?_eq_some_iff.1 hv).1
    rw [List.getElem?_map, List.getElem?_range hi] at hx
    simp only [Option.map_some, Option.some.injEq] at hx
    subst hx
    have := hf i hi row[i] v (by simp) hv
    exact ⟨this.2.2, this.1⟩

section
variable {H : Type} {enc : TypeId × Value → H} {P : Program} {W : World} {sp : Nat → Bool} {held : Bool}

theorem shpF_fit {g : TypeId → Option (List Sh)} {cs : List Value} : ∀ (fs : List Field) (off : Nat) (l : List Sh), shpF g fs off = some l → fs.all (fun f => (g f.type).map (·.length) == some (P.cellsOf f.type)) = true → cs.length ≤ off + l.length → off ≤ cs.length →
    (∀ f ∈ fs, ∀ row, g f.type = some row → FitV W row ((cs.drop f.offset).take (P.cellsOf f.type))) → FitV W l (cs.drop off)
  | [], off, l, h, _, h1, h2, _ => by
    simp only [shpF, Option.some.injEq] at h
    subst h
    rw [List.drop_eq_nil_of_le (by simpa using h1)]
    exact .nil W
  | f :: fs, off, l, h, ha, h1, h2, hr => by
    unfold shpF at h
    split at h
    · cases h
    · rename_i ho
      have ho : f.offset = off := Decidable.not_not.1 ho
      obtain ⟨r, hg, h⟩ := Option.bind_eq_some_iff.1 h
      obtain ⟨m, hm, rfl⟩ := Option.map_eq_some_iff.1 h
      simp only [List.all_cons, Bool.and_eq_true] at ha
      have hsz : P.cellsOf f.type = r.length := by
        have := ha.1
        rw [hg] at this
        exact (by simpa using this : r.length = P.cellsOf f.type).symm
      have hf := hr f (List.mem_cons_self ..) r hg
      rw [hsz, ho] at hf
      have hlen : off + r.length ≤ cs.length := by
        have := hf.1
        rw [List.length_take, List.length_drop] at this
        omega
      have ih := shpF_fit (cs := cs) fs (off + r.length) m hm ha.2 (by simp at h1; omega) hlen (fun f' hf' => hr f' (List.mem_cons_of_mem _ hf'))
      have hcs : cs.drop off = (cs.drop off).take r.length ++ cs.drop (off + r.length) := by
        rw [← List.drop_drop, List.take_append_drop]
      rw [hcs]
      exact hf.append ih

theorem rep_fit {row : List Sh} : ∀ (n : Nat) (cs : List Value), cs.length = n * row.length → (∀ i, i < n → FitV W row ((cs.drop (i * row.length)).take row.length)) → FitV W (List.replicate n row).flatten cs
  | 0, cs, h, _ => by
    have : cs = [] := List.length_eq_zero_iff.1 (by simpa using h)
    subst this
    exact .nil W
  | n + 1, cs, h, hr => by
    rw [List.replicate_succ, List.flatten_cons]
    have h0 := hr 0 (by omega)
    simp only [Nat.zero_mul, List.drop_zero] at h0
    have hl : row.length ≤ cs.length := by rw [h, Nat.succ_mul]; omega
    have ih := rep_fit (row := row) n (cs.drop row.length) (by rw [List.length_drop, h, Nat.succ_mul]; omega) (fun i hi => by
      have := hr (i + 1) (by omega)
      rwa [Nat.succ_mul, Nat.add_comm, ← List.drop_drop] at this)
    have := h0.append ih
    rwa [List.take_append_drop] at this

theorem im_G0 {W : World} {b : Nat} (h : b < W.heap.size) : im (G0 W) W [] true b := .inl h

theorem trod_fit : ∀ (fuel : Nat) (t : TypeId) (cs : List Value) (x : DataW H × List MemPlace) (d : Nat) (row : List Sh), DataW.trod enc P W 0 sp held fuel t cs = some x → shp P d t = some row → FitV W row cs := by
  intro fuel t cs x d
  induction d generalizing fuel t cs x with
  | zero => intro row h hs; simp [shp] at hs
  | succ d ih =>
    intro row h hs
    simp only [shp] at hs
    split at hs
    case h_1 k hu =>
      obtain ⟨n, rfl, rfl, hw⟩ := DataW.trod_int hu h
      simp only [Option.some.injEq] at hs
      subst hs
      refine ⟨rfl, fun i c v hc hv => ?_⟩
      rcases i with _ | i
      · simp only [List.getElem?_cons_zero, Option.some.injEq] at hc hv
        subst hc hv
        exact ⟨rfl, _, .int k n hw, .v _⟩
      · simp at hc
    case h_2 hu =>
      obtain ⟨b, rfl, rfl⟩ := DataW.trod_bool hu h
      simp only [Option.some.injEq] at hs
      subst hs
      refine ⟨rfl, fun i c v hc hv => ?_⟩
      rcases i with _ | i
      · simp only [List.getElem?_cons_zero, Option.some.injEq] at hc hv
        subst hc hv
        exact ⟨rfl, _, .bool b, .v _⟩
      · simp at hc
    case h_3 hu =>
      obtain ⟨s, rfl, rfl, hsz⟩ := DataW.trod_string hu h
      simp only [Option.some.injEq] at hs
      subst hs
      refine ⟨rfl, fun i c v hc hv => ?_⟩
      rcases i with _ | i
      · simp only [List.getElem?_cons_zero, Option.some.injEq] at hc hv
        subst hc hv
        exact ⟨rfl, _, .str s hsz, .v _⟩
      · simp at hc
    case h_4 e hu =>
      obtain ⟨r, hr, hs⟩ := Option.bind_eq_some_iff.1 hs
      split at hs
      case isFalse => cases hs
      rename_i hsz
      obtain ⟨hsz, hpos⟩ := hsz
      simp only [Option.some.injEq] at hs
      subst hs
      rcases open_slice hu h with ⟨rfl, rfl⟩ | ⟨a, len, cap, m, n, D, Pl, rfl, _, hl, hm, hmm, _, hx⟩
      · refine ⟨rfl, fun i c v hc hv => ?_⟩
        rcases i with _ | i
        · simp only [List.getElem?_cons_zero, Option.some.injEq] at hc hv
          subst hc hv
          exact ⟨rfl, _, .sl r 0 [] (by simp [maxLen]) (by simp) (fun i x c h => by simp at h), .sl 0 [] true none 0 0 0 (fun _ => .bool true) (by omega) (.inl ⟨rfl, rfl⟩) (fun i h => by simp at h) (fun i x h => by simp at h)⟩
        · simp at hc
      · refine ⟨rfl, fun i c v hc hv => ?_⟩
        rcases i with _ | i
        · simp only [List.getElem?_cons_zero, Option.some.injEq] at hc hv
          subst hc hv
          refine ⟨rfl, ?_⟩
          rw [hsz] at hx
          -- each cell
          have key : ∀ j, j < len * r.length → ∃ (y : Value) (z : AV), W.cell? (a.add j) = some y ∧ y.oneCell' = true ∧ (∀ c, r[j % r.length]? = some c → Fit c z) ∧ VR W (im (G0 W) W []) [] z y := by
            intro j hj
            have hq : j / r.length < len := by rw [Nat.div_lt_iff_lt_mul hpos]; exact hj
            obtain ⟨cs', hc', hd⟩ := hx (j / r.length) (by rw [hmm]; split <;> omega)
            obtain ⟨hl', hf'⟩ := ih _ _ _ _ r hd hr
            have hmod : j % r.length < r.length := Nat.mod_lt _ hpos
            obtain ⟨ho, z, hz, hv⟩ := hf' (j % r.length) r[j % r.length] (cs'[j % r.length]'(by omega)) (by simp [hmod]) (by simp)
            obtain ⟨_, _, hcc⟩ := World.cells?_some hc'
            have := hcc (j % r.length) hmod
            rw [Go.Deep.add_add, Nat.mul_comm, Nat.div_add_mod] at this
            refine ⟨_, z, by rw [this]; simp, ho, fun c hc => ?_, hv⟩
            rw [List.getElem?_eq_getElem hmod, Option.some.injEq] at hc
            exact hc ▸ hz
          obtain ⟨cv, hcv⟩ := choose_lt (α := Value) (n := len * r.length) (p := fun j y => ∃ (z : AV), W.cell? (a.add j) = some y ∧ y.oneCell' = true ∧ (∀ c, r[j % r.length]? = some c → Fit c z) ∧ VR W (im (G0 W) W []) [] z y) (fun j hj => by
            obtain ⟨y, z, h1⟩ := key j hj
            exact ⟨y, z, h1⟩)
          obtain ⟨av, hav⟩ := choose_lt (α := AV) (n := len * r.length) (p := fun j z => W.cell? (a.add j) = some (cv j) ∧ (cv j).oneCell' = true ∧ (∀ c, r[j % r.length]? = some c → Fit c z) ∧ VR W (im (G0 W) W []) [] z (cv j)) (fun j hj => hcv j hj)
          refine ⟨.sl len ((List.range (len * r.length)).map av) true, .sl r len _ (by omega) (by simp) ?_, ?_⟩
          · intro i x c hx hc
            have hi : i < len * r.length := by simpa using (List.getElem?_eq_some_iff.1 hx).1
            rw [List.getElem?_map, List.getElem?_range hi] at hx
            simp only [Option.map_some, Option.some.injEq] at hx
            subst hx
            exact (hav i hi).2.2.1 c hc
          · rcases Nat.eq_zero_or_pos len with rfl | hlen
            · exact .sl 0 _ true _ _ 0 0 cv (by omega) (.inl ⟨rfl, by simp⟩) (fun i h => by simp at h) (fun i x h => by simp at h)
            · have hp : 0 < len * r.length := Nat.mul_pos hlen hpos
              have h0 := (hav 0 hp).1
              simp only [Addr.add, if_pos] at h0
              have hsp : a.spot = none := by
                unfold World.cell? at h0
                split at h0
                · cases hs : a.spot with
                  | none => rfl
                  | some _ => simp [hs] at h0
                · cases h0
              have hblk : a.block < W.heap.size := World.block_lt_of_cell? W _ h0
              have hadd : ∀ j, a.add j = ⟨a.block, a.off + j, none⟩ := by
                intro j
                unfold Addr.add
                split
                · subst j; cases a; simp_all
                · rfl
              refine .sl len _ true _ cap a.block a.off cv (by omega) (.inr ⟨by cases a; simp_all, im_G0 hblk⟩) ?_ ?_
              · intro i hi
                have hi : i < len * r.length := by simpa using hi
                rw [← hadd]
                exact ⟨(hav i hi).1, (hav i hi).2.1⟩
              · intro i x hx
                have hi : i < len * r.length := by simpa using (List.getElem?_eq_some_iff.1 hx).1
                rw [List.getElem?_map, List.getElem?_range hi] at hx
                simp only [Option.map_some, Option.some.injEq] at hx
                subst hx
                exact (hav i hi).2.2.2
        · simp at hc
    case h_5 n e hu =>
      obtain ⟨r, hr, hs⟩ := Option.bind_eq_some_iff.1 hs
      split at hs
      case isFalse => cases hs
      rename_i hsz
      simp only [Option.some.injEq] at hs
      subst hs
      obtain ⟨xs, m, hm, rfl, hl, hxl, hx⟩ := DataW.trod_array hu h
      rw [hsz.1] at hx
      rw [hsz.2] at hl
      exact rep_fit n cs hl fun i hi => ih _ _ _ xs[i] r (by rw [hx i hi]; simp) hr
    case h_6 fs hu =>
      obtain ⟨r, hr, hs⟩ := Option.bind_eq_some_iff.1 hs
      split at hs
      case isFalse => cases hs
      rename_i hsz
      simp only [Option.some.injEq] at hs
      subst hs
      obtain ⟨xs, m, hm, rfl, hl, hxl, hx⟩ := DataW.trod_struct hu h
      have := shpF_fit (P := P) (W := W) (cs := cs) fs.toList 0 r hr hsz.1 (by omega) (by omega) (fun f hf row hrow => by
        obtain ⟨j, hj⟩ := List.getElem?_of_mem hf
        obtain ⟨y, hy⟩ : ∃ y, xs[j]? = some y := ⟨_, List.getElem?_eq_getElem (by rw [hxl]; exact (List.getElem?_eq_some_iff.1 hj).1)⟩
        exact ih _ _ _ y row (by rw [hx j f (by simpa using hj)]; exact hy) hrow)
      simpa using this
    case h_7 => cases hs
end

/-! ## a law's arguments -/
/-- data of a type, as a call is handed it -/
def ArgFit (P : Program) (t : TypeId) (a : AV) : Prop := ∃ row, shp P 8 t = some row ∧ (if agA P t = some true then ∃ l, a = .agg l ∧ ShFits row l else ShFits row [a])

def slicesPos (P : Program) : Bool := (List.range P.types.size).all fun t => match P.underlying t with | some (.slice e) => decide (0 < P.cellsOf e) | _ => true

section
variable {H : Type} {enc : TypeId × Value → H} {P : Program} {W : World} {sp : Nat → Bool} {held : Bool}

theorem arg_fit {t : TypeId} {v : Value} {x : DataW H × List MemPlace} {fuel b0 : Nat} {r : Reach} {row : List Sh} (h : DataW.trod enc P W 0 sp held fuel t v.cells.toList = some x) (hok : Value.okWide P W r b0 t v) (hs : shp P 8 t = some row) :
    ∃ a, ArgFit P t a ∧ VR W (im (G0 W) W []) [] a v := by
  have hf := trod_fit fuel t _ x 8 row h hs
  obtain ⟨l, hl, hv⟩ := hf.fits
  have one : agA P t ≠ some true → (∀ c, v ≠ .agg c) → ∃ a, ArgFit P t a ∧ VR W (im (G0 W) W []) [] a v := by
    intro hag hna
    have hc : v.cells.toList = [v] := by
      cases v <;> first | rfl | exact (hna _ rfl).elim
    rw [hc] at hf hv
    have hl1 : l.length = 1 := by rw [hl.1, ← hf.1]; rfl
    match l, hl1 with
    | [a], _ =>
      refine ⟨a, ⟨row, hs, ?_⟩, (hv 0 a v rfl rfl).1⟩
      rw [if_neg hag]
      exact hl
  have agg : agA P t = some true → (∃ c, v = .agg c) → ∃ a, ArgFit P t a ∧ VR W (im (G0 W) W []) [] a v := by
    rintro hag ⟨c, rfl⟩
    have hc : (Value.agg c).cells.toList = c.toList := rfl
    rw [hc] at hf hv
    refine ⟨.agg l, ⟨row, hs, ?_⟩, .agg l c (by rw [hl.1, ← hf.1]; simp) (fun i y hy => ?_) (fun i x y hx hy => (hv i x y hx (by simpa using hy)).1)⟩
    · rw [if_pos hag]
      exact ⟨l, rfl, hl⟩
    · have hi : i < c.size := by
        by_cases hi : i < c.size
        · exact hi
        · simp [Array.getElem?_eq_none (Nat.le_of_not_lt hi)] at hy
      have hi' : i < l.length := by rw [hl.1, ← hf.1]; simpa using hi
      exact (hv i l[i] y (by simp) (by simpa using hy)).2
  have hs' : shp P (7 + 1) t = some row := hs
  clear hs
  rw [shp.eq_2] at hs'
  split at hs'
  case h_1 k hu =>
    obtain ⟨n, rfl⟩ := okWide_int hu hok
    exact one (by simp [agA, hu]) (by simp)
  case h_2 hu =>
    obtain ⟨n, rfl⟩ := okWide_bool hu hok
    exact one (by simp [agA, hu]) (by simp)
  case h_3 hu =>
    obtain ⟨n, rfl⟩ := okWide_string hu hok
    exact one (by simp [agA, hu]) (by simp)
  case h_4 e hu =>
    obtain ⟨a, n, c, rfl⟩ := okWide_slice hu hok
    exact one (by simp [agA, hu]) (by simp)
  case h_5 n e hu =>
    refine agg (by simp [agA, hu]) ?_
    unfold Value.okWide at hok
    rw [hu] at hok
    obtain ⟨c, hc, _⟩ := hok
    exact ⟨c, hc⟩
  case h_6 fs hu =>
    refine agg (by simp [agA, hu]) ?_
    unfold Value.okWide at hok
    rw [hu] at hok
    obtain ⟨c, hc, _⟩ := hok
    exact ⟨c, hc⟩
  case h_7 => cases hs'

theorem args_fit {r : Reach} {b0 : Nat} : ∀ {ts : List TypeId} {vs : List Value} {ds : List (DataW H)} {ps : List MemPlace}, DataW.TrodAll enc P W 0 sp held ts vs ds ps →
    (∀ (j : Nat) (t : TypeId) (v : Value), ts[j]? = some t → vs[j]? = some v → Value.okWide P W r b0 t v) → (∀ t ∈ ts, (shp P 8 t).isSome = true) →
    vs.length = ts.length ∧ ds.length = ts.length ∧ ∃ as : List AV, as.length = ts.length ∧ (∀ (j : Nat) (t : TypeId) (a : AV), ts[j]? = some t → as[j]? = some a → ArgFit P t a) ∧
      ∀ (j : Nat) (a : AV) (v : Value), as[j]? = some a → vs[j]? = some v → VR W (im (G0 W) W []) [] a v
  | [], vs, ds, ps, h, hok, hs => by
    obtain ⟨rfl, rfl, rfl⟩ := trodAll_nil h
    exact ⟨rfl, rfl, [], rfl, fun j t a h => by simp at h, fun j a v h => by simp at h⟩
  | t :: ts, vs, ds, ps, h, hok, hs => by
    obtain ⟨v, vs1, d, ds1, a, b, rfl, rfl, rfl, ⟨fuel, h1⟩, h2⟩ := trodAll_cons h
    obtain ⟨l1, l2, as, l3, h3, h4⟩ := args_fit h2 (fun j t v ht hv => hok (j + 1) t v (by simpa using ht) (by simpa using hv)) (fun t ht => hs t (List.mem_cons_of_mem _ ht))
    obtain ⟨row, hrow⟩ := Option.isSome_iff_exists.1 (hs t (List.mem_cons_self ..))
    obtain ⟨x, hx, hv⟩ := arg_fit h1 (hok 0 t v rfl rfl) hrow
    refine ⟨by simp [l1], by simp [l2], x :: as, by simp [l3], fun j t' y ht hy => ?_, fun j y v' hy hv' => ?_⟩
    · rcases j with _ | j
      · simp only [List.getElem?_cons_zero, Option.some.injEq] at ht hy
        subst ht hy
        exact hx
      · exact h3 j t' y (by simpa using ht) (by simpa using hy)
    · rcases j with _ | j
      · simp only [List.getElem?_cons_zero, Option.some.injEq] at hv' hy
        subst hv' hy
        exact hv
      · exact h4 j y v' (by simpa using hy) (by simpa using hv')

theorem trodAll_back {W' : World} {sp' : Nat → Bool} (hl : laidOutB P = true) (hm : mapsRowed P = true) (hz : slicesPos P = true) (ho : Old W W') :
    ∀ {ts : List TypeId} {vs : List Value} {ds : List (DataW H)} {ps : List MemPlace}, DataW.TrodAll enc P W 0 (fun _ => true) true ts vs ds ps → (∀ t ∈ ts, t < P.types.size) → (∀ p ∈ ps, sp' p.block = true) → DataW.TrodAll enc P W' 0 sp' true ts vs ds ps
  | [], vs, ds, ps, h, _, _ => by
    obtain ⟨rfl, rfl, rfl⟩ := trodAll_nil h
    exact rfl
  | t :: ts, vs, ds, ps, h, ht, hs => by
    have hlt := h.lt
    obtain ⟨v, vs1, d, ds1, a, b, rfl, rfl, rfl, ⟨fuel, h1⟩, h2⟩ := trodAll_cons h
    refine ⟨a, b, ⟨fuel, ?_⟩, trodAll_back hl hm hz ho h2 (fun t h => ht t (List.mem_cons_of_mem _ h)) (fun p hp => hs p (List.mem_append_right _ hp)), rfl⟩
    refine DataW.trod_stays (kids_rows hl hm) ?_ (fun h => by cases h) (ht t (List.mem_cons_self ..)) h1 (fun p hp => ?_) (fun p hp => hs p (List.mem_append_left _ hp))
    · intro t e hts hu
      have := (List.all_eq_true.1 hz) t (List.mem_range.2 hts)
      rw [hu] at this
      simpa using this
    · have hp' := hlt p (List.mem_append_left _ hp)
      cases p with
      | cell b off => exact ho.cell _ hp'
      | map b => exact ho.heap _ hp'

/-- A law that the reader answers for, whatever its arguments' types: true, and its arguments are as they were. -/
theorem law_any {cx : Cx} {ext : FnA} (hP : cx.P = P) (hext : ∀ f args bx r bx', ext f args bx = some (r, bx') → Sound cx.P f args bx r bx') {n : Nat} {f : FuncId} {fn : Func} {s : ChangeSpec} {tb : TypeId}
    (hl : laidOutB P = true) (hm : mapsRowed P = true) (hz : slicesPos P = true) (hts : fn.params.toList.all (fun t => decide (t < P.types.size) && (shp P 8 t).isSome) = true)
    (hv : s.vars = []) (hspec : ∀ (H : Type) (ds : List (DataW H)), ds.length = fn.params.toList.length → s.fn H ds = { results := [.lit (.bool true)], args := ds })
    (hres : fn.resultTypes = #[tb]) (hb : P.underlying tb = some .bool)
    (hlaw : ∀ as : List AV, as.length = fn.params.toList.length → (∀ (j : Nat) (t : TypeId) (a : AV), fn.params.toList[j]? = some t → as[j]? = some a → ArgFit P t a) → cf (evFn cx ext n) f as = some (.v (.bool true)))
    {apart : Bool} {base : Nat} {args : Array Value} {ds gs : List (DataW H)} {before : List MemPlace} (hW : DataW.Whole enc P fn.params.toList s.vars apart W args.toList ds gs before)
    (hval : ∀ (j : Nat) t v, fn.params[j]? = some t → args[j]? = some v → Value.okWide P W .any base t v) :
    Calls P f args W fun e W' => ∃ v, e = .returned v ∧ s.post enc P fn apart true false false W args v W' := by
  have hW' := hW
  obtain ⟨p, q, hA, hV, rfl, hfz, hnd⟩ := hW
  rw [hv] at hV
  obtain ⟨rfl, rfl⟩ := trodVars_none hV
  rw [List.all_eq_true] at hts
  have hts1 : ∀ t ∈ fn.params.toList, t < P.types.size := fun t ht => by
    have := hts t ht
    rw [Bool.and_eq_true] at this
    exact of_decide_eq_true this.1
  have hts2 : ∀ t ∈ fn.params.toList, (shp P 8 t).isSome = true := fun t ht => by
    have := hts t ht
    rw [Bool.and_eq_true] at this
    exact this.2
  obtain ⟨l1, l2, as, l3, h3, h4⟩ := args_fit hA (fun j t v ht hv => hval j t v (by simpa using ht) (by simpa using hv)) hts2
  subst hP
  refine (law_calls (w := W) hext (hlaw as l3 h3) (by simpa using l1.trans l3.symm) ?_).mono fun e W' ⟨he, ho⟩ => ?_
  · intro i x v hx hv
    exact h4 i x v hx (by simpa using hv)
  · subst he
    refine ⟨_, rfl, post_old (pa := p) (pv := []) hW' ?_ ?_ ?_ (by simp) ho ?_⟩
    · intro b sp hd
      rw [hres, List.append_nil, hspec _ _ l2]
      exact trodAll_mk1 (shut_bool hb true)
    · intro sp' hs
      rw [List.append_nil, hspec _ _ l2]
      exact trodAll_back hl hm hz ho hA hts1 (fun p hp => hs p (by simpa using hp))
    · intro sp' hs
      rw [hv, List.append_nil, hspec _ _ l2]
      exact rfl
    · exact ok_one hres rfl (okWide_bool_mk hb true)
end
end Go.Sy

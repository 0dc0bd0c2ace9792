/-
  The reader's maps, against the machine's.
-/
import Derived.MapKept
import Derived.Test.YtmkdhgigghgieaaSyCall
namespace Go.Sy
open Go.MapKept (IsKey)
section
variable {P : Program} {G : Gh} {w : World} {β : Beta} {bx : Bx}

theorem mpT_spec {t : TypeId} {q : TypeId × TypeId} (h : mpT P t = some q) : P.underlying t = some (.map q.1 q.2) := by
  unfold mpT at h
  rw [Option.bind_eq_some_iff] at h
  obtain ⟨d, h1, h2⟩ := h
  split at h2 <;> simp at h2
  subst h2
  exact h1
theorem inA_under {t : TypeId} {k : IntKind} (h : inA P t = some k) : P.underlying t = some (.int k) := by
  unfold inA at h
  rw [Option.bind_eq_some_iff] at h
  obtain ⟨d, h1, h2⟩ := h
  split at h2 <;> simp at h2
  subst h2
  exact h1
theorem EsR.cons {im0 : Bool → Nat → Prop} {x : AV} {l : List AV} {e : MapEntry} {es : List MapEntry} (h : EsR w im0 β (x :: l) (e :: es)) : (∃ x', x = .tup [.v e.key, x'] ∧ VR w im0 β x' e.val) ∧ EsR w im0 β l es :=
  ⟨h.2 0 x e rfl rfl, by have := h.1; simpa using this, fun i x e h1 h2 => h.2 (i + 1) x e (by simpa using h1) (by simpa using h2)⟩
theorem findL_ok {im0 : Bool → Nat → Prop} {k : IntKind} {n : Int} : ∀ {l : List AV} {es : List MapEntry} {r : Option AV} (i : Nat), findL k n l = some r → EsR w im0 β l es →
    (r = none ∧ Instr.findNow (.int k) (.int k n) es i = some none) ∨ ∃ j y e, r = some y ∧ es[j]? = some e ∧ e.key = .int k n ∧ VR w im0 β y e.val ∧ Instr.findNow (.int k) (.int k n) es i = some (some (i + j, e.val))
  | [], [], r, i, h, _ => by
    simp only [findL, Option.some.injEq] at h
    exact .inl ⟨h.symm, rfl⟩
  | [], _ :: _, r, i, _, hE => by have := hE.1; simp at this
  | _ :: _, [], r, i, _, hE => by have := hE.1; simp at this
  | x :: l, e :: es, r, i, h, hE => by
    obtain ⟨⟨x', rfl, hx⟩, hE'⟩ := hE.cons
    obtain ⟨ek, ev, eb⟩ := e
    cases ek <;> simp only [findL, reduceCtorEq] at h
    rename_i k' m
    split at h
    · rename_i hk
      subst hk
      split at h
      · rename_i hm
        simp only [Option.some.injEq] at h
        subst h
        have hm' : n = m := by simpa using hm
        subst hm'
        exact .inr ⟨0, x', _, rfl, rfl, rfl, hx, by simp [Instr.findNow, Instr.sameNow]⟩
      · rename_i hm
        have hm' : (n == m) = false := by simpa using hm
        rcases findL_ok (i + 1) h hE' with ⟨h1, h2⟩ | ⟨j, y, e, h1, h2, h3, h4, h5⟩
        · exact .inl ⟨h1, by simp only [Instr.findNow, Instr.sameNow, if_true, hm', h2]⟩
        · exact .inr ⟨j + 1, y, e, h1, by simpa using h2, h3, h4, by simp only [Instr.findNow, Instr.sameNow, if_true, hm', h5]; congr 3; omega⟩
    · simp at h
theorem putL_ok {im0 : Bool → Nat → Prop} {k : IntKind} {n : Int} {v : AV} : ∀ {l : List AV} {es : List MapEntry} {l' : List AV} (i : Nat), putL k n v l = some l' → EsR w im0 β l es →
    (l' = l ++ [.tup [.v (.int k n), v]] ∧ Instr.findNow (.int k) (.int k n) es i = some none) ∨
    ∃ j e, es[j]? = some e ∧ e.key = .int k n ∧ l' = l.set j (.tup [.v (.int k n), v]) ∧ Instr.findNow (.int k) (.int k n) es i = some (some (i + j, e.val))
  | [], [], l', i, h, _ => by
    simp only [putL, Option.some.injEq] at h
    exact .inl ⟨h.symm, rfl⟩
  | [], _ :: _, l', i, _, hE => by have := hE.1; simp at this
  | _ :: _, [], l', i, _, hE => by have := hE.1; simp at this
  | x :: l, e :: es, l', i, h, hE => by
    obtain ⟨⟨x', rfl, hx⟩, hE'⟩ := hE.cons
    obtain ⟨ek, ev, eb⟩ := e
    cases ek <;> simp only [putL, reduceCtorEq] at h
    rename_i k' m
    split at h
    · rename_i hk
      subst hk
      split at h
      · rename_i hm
        simp only [Option.some.injEq] at h
        subst h
        have hm' : n = m := by simpa using hm
        subst hm'
        exact .inr ⟨0, _, rfl, rfl, rfl, by simp [Instr.findNow, Instr.sameNow]⟩
      · rename_i hm
        have hm' : (n == m) = false := by simpa using hm
        rw [Option.map_eq_some_iff] at h
        obtain ⟨l2, h, rfl⟩ := h
        rcases putL_ok (i + 1) h hE' with ⟨h1, h2⟩ | ⟨j, e, h1, h2, h3, h4⟩
        · exact .inl ⟨by rw [h1]; rfl, by simp only [Instr.findNow, Instr.sameNow, if_true, hm', h2]⟩
        · exact .inr ⟨j + 1, e, by simpa using h1, h2, by rw [h3]; rfl, by simp only [Instr.findNow, Instr.sameNow, if_true, hm', h4]; congr 3; omega⟩
    · simp at h
theorem zvA_ok {t : TypeId} {z : AV} (h : zvA P t = some z) (im0 : Bool → Nat → Prop) : ∃ v : Value, (zeroValue t).run P w = .ok v w ∧ VR w im0 β z v := by
  unfold zvA at h
  rw [Option.bind_eq_some_iff] at h
  obtain ⟨v, h, h2⟩ := h
  have hr : (zeroValue t).run P w = .ok v w := by
    rw [Option.bind_eq_some_iff] at h
    obtain ⟨i, hi, hz⟩ := h
    simp [zeroValue, run_typeInfo' hi, hz]
  refine ⟨v, hr, ?_⟩
  split at h2
  · rename_i c
    split at h2
    · rename_i hall
      simp only [Option.some.injEq] at h2
      subst h2
      refine .agg _ c (by simp) (fun i y hy => ?_) fun i x y hx hy => ?_
      · exact List.all_eq_true.mp hall y (List.mem_of_getElem? (i := i) (by simpa using hy))
      · rw [List.getElem?_map, Option.map_eq_some_iff] at hx
        obtain ⟨y', hy', rfl⟩ := hx
        rw [Array.getElem?_toList, hy] at hy'
        simp only [Option.some.injEq] at hy'
        subst hy'
        exact .v _
    · simp at h2
  · simp only [Option.some.injEq] at h2
    subst h2
    exact .v _
theorem okM_ok {im0 : Bool → Nat → Prop} {x : AV} {v : Value} (ok b : Bool) (h : VR w im0 β x v) : VR w im0 β (okM ok x b) (if ok then .tuple #[v, .bool b] else v) := by
  unfold okM
  cases ok
  · exact h
  · refine .tup _ _ rfl fun i x' y hx hy => ?_
    match i, hx, hy with
    | 0, hx, hy => simp at hx hy; subst hx; subst hy; exact h
    | 1, hx, hy => simp at hx hy; subst hx; subst hy; exact .v _
    | i + 2, hx, hy => simp at hx

theorem MR.mget (hM : MR G w β bx) {b : Nat} {l : List AV} {v : Value} (hv : VR w (im G w β) β (.mp b) v) (hl : bx[b]? = some l) :
    ∃ blk es cl, β[b]? = some (.mpl blk) ∧ v = .map (some blk) ∧ w.heap[blk]? = some (.map es cl) ∧ MpR w (im G w β) β l es cl := by
  cases hv with
  | mp _ blk hb =>
    obtain ⟨es, cl, h1, h2⟩ := hM.maps b blk l hb hl
    exact ⟨blk, es, cl, hb, rfl, h1, h2⟩
theorem lenM_ok (hM : MR G w β bx) {t u : TypeId} {ts : Array TypeId} {x r : AV} {v : Value} (hm : isMp P t = true) (h : lenM P bx x = some r) (ht : ts[0]? = some t) (hx : VR w (im G w β) β x v) :
    ∃ y, (Builtin.len_ ts u #[v]).run P w = .ok y w ∧ VR w (im G w β) β r y := by
  unfold isMp at hm
  obtain ⟨q, hq⟩ := Option.isSome_iff_exists.1 hm
  have hu := mpT_spec hq
  unfold lenM at h
  split at h
  · rename_i b
    rw [Option.map_eq_some_iff] at h
    obtain ⟨l, hl, rfl⟩ := h
    obtain ⟨blk, es, cl, hb, rfl, h1, h2⟩ := hM.mget hx hl
    obtain ⟨t, rfl, h3⟩ := h2
    refine ⟨.int .i64 es.size, ?_, by have := h3.1; rw [Array.length_toList] at this; rw [List.tail_cons, ← this]; exact .v _⟩
    simp [Builtin.len_, ht, run_under hu, MapKept.run_getObj_map h1, goInt]
  · simp only [Option.some.injEq] at h
    subst h
    cases hx
    refine ⟨.int .i64 0, ?_, .v _⟩
    simp [Builtin.len_, ht, run_under hu, goInt]
  · simp at h
theorem lookA_ok (hM : MR G w β bx) {t : TypeId} {x i r : AV} {ok : Bool} {vx vi : Value} (h : lookA P bx t x i ok = some r) (hx : VR w (im G w β) β x vx) (hi : VR w (im G w β) β i vi) :
    ∃ v, (Instr.lookup t vx vi ok).run P w = .ok v w ∧ VR w (im G w β) β r v := by
  unfold lookA at h
  split at h
  case h_2 => simp at h
  rename_i k n
  cases hi
  rw [Option.bind_eq_some_iff] at h
  obtain ⟨q, hq, h⟩ := h
  have hu := mpT_spec hq
  split at h
  case isFalse => simp at h
  rename_i hk
  have hd := inA_under hk
  have hkey : IsKey (.int k) (.int k n) := by simp [IsKey]
  split at h
  · rename_i b
    rw [Option.bind_eq_some_iff] at h
    obtain ⟨l, hl, h⟩ := h
    rw [Option.bind_eq_some_iff] at h
    obtain ⟨a, ha, h⟩ := h
    obtain ⟨blk, es, cl, hb, rfl, h1, h2⟩ := hM.mget hx hl
    obtain ⟨t, rfl, h2⟩ := h2
    rcases findL_ok 0 ha h2 with ⟨rfl, h3⟩ | ⟨j, y, e, rfl, h3, h4, h5, h6⟩
    · rw [Option.map_eq_some_iff] at h
      obtain ⟨z, hz, rfl⟩ := h
      obtain ⟨zv, z1, z2⟩ := zvA_ok (w := w) (β := β) hz (im G w β)
      refine ⟨_, ?_, okM_ok ok false z2⟩
      simp only [Instr.lookup, Sem.run_bind, run_under hu, Result.andThen_ok, MapKept.run_getObj_map h1, Sem.run_pure, MapKept.run_checkKey hd hkey, MapKept.run_findKey hd h3, z1]
    · simp only [Option.some.injEq] at h
      subst h
      refine ⟨_, ?_, okM_ok ok true h5⟩
      simp only [Instr.lookup, Sem.run_bind, run_under hu, Result.andThen_ok, MapKept.run_getObj_map h1, Sem.run_pure, MapKept.run_checkKey hd hkey, MapKept.run_findKey hd h6]
  · rw [Option.map_eq_some_iff] at h
    obtain ⟨z, hz, rfl⟩ := h
    obtain ⟨zv, z1, z2⟩ := zvA_ok (w := w) (β := β) hz (im G w β)
    cases hx
    refine ⟨_, ?_, okM_ok ok false z2⟩
    have h3 : Instr.findNow (.int k) (.int k n) [] 0 = some none := rfl
    simp only [Instr.lookup, Sem.run_bind, run_under hu, Result.andThen_ok, Sem.run_pure, MapKept.run_checkKey hd hkey, MapKept.run_findKey hd h3, z1]
  · simp at h

/-- a map that a box owns is written -/
theorem MR.mapw (hM : MR G w β bx) {b blk : Nat} {l : List AV} (hβ : β[b]? = some (.mpl blk)) (hl : bx[b]? = some l) {es es' : Array MapEntry} {cl cl' : Nat} (hw : w.heap[blk]? = some (.map es cl)) (l' : List AV)
    (hr : MpR w (im G w β) β l' es' cl') : MR G { w with heap := w.heap.setIfInBounds blk (.map es' cl') } β (bx.set b l') ∧ Ext G allq w β { w with heap := w.heap.setIfInBounds blk (.map es' cl') } β := by
  obtain ⟨hw', hoth⟩ := MapKept.heap_set (o' := .map es' cl') hw
  generalize hW : ({ w with heap := w.heap.setIfInBounds blk (.map es' cl') } : World) = w'
  have hh : w'.heap = w.heap.setIfInBounds blk (.map es' cl') := by rw [← hW]
  rw [← hh] at hw' hoth
  have hhs : w'.heap.size = w.heap.size := by rw [hh]; simp
  have hout : w'.os = w.os ∧ w'.output = w.output ∧ w'.tape = w.tape := by rw [← hW]; exact ⟨rfl, rfl, rfl⟩
  have hext : Ext G allq w β w' β := by
    refine ⟨Nat.le_of_eq hhs.symm, fun k hk ho => hoth k fun e => ho (owned_mp (e ▸ hβ)), fun f k hi => ⟨?_, fun j => cell_heap (hoth k fun e => hM.not_im hi (owned_mp (e ▸ hβ))) j⟩, .same fun _ _ _ h => h, ?_, fun _ _ h => h, hout⟩
    · exact hi.imp id fun h => ⟨h.1, by omega, h.2.2⟩
    · intro b' k o' c1 E1 fz1 _ hb hc
      have e : k ≠ blk := by rintro rfl; rw [hw] at hc; simp at hc
      exact ⟨c1, fz1, by rw [hoth k e, hc], rfl⟩
  refine ⟨⟨by simpa using hM.len, hM.uniq, ?_, ?_, ?_, hM.frle, fun k hk => ⟨(hM.leold k hk).1, (hM.leold k hk).2⟩, by have := hM.sz; omega⟩, hext⟩
  · intro b' k o' m hb hm
    have e : b' ≠ b := by rintro rfl; rw [hβ] at hb; simp at hb
    rw [List.getElem?_set_ne (Ne.symm e)] at hm
    obtain ⟨c1, E1, fz1, h1, h2, h3, h4, h5⟩ := hM.born b' k o' m hb hm
    have hk : k ≠ blk := by rintro rfl; rw [hw] at h1; simp at h1
    exact ⟨c1, E1, fz1, by rw [hoth k hk, h1], h2, h3, h4, fun i x y hx hy => hext.vr (h5 i x y hx hy)⟩
  · intro b' k m hb hm
    by_cases e : b' = b
    · subst e
      rw [hβ] at hb
      simp only [Option.some.injEq, Lie.mpl.injEq] at hb
      subst hb
      have hlt : b' < bx.length := (List.getElem?_eq_some_iff.mp hl).1
      rw [List.getElem?_set_self hlt] at hm
      simp only [Option.some.injEq] at hm
      subst hm
      exact ⟨es', cl', hw', hr.imp fun _ _ h => hext.vr h⟩
    · rw [List.getElem?_set_ne (Ne.symm e)] at hm
      obtain ⟨es1, cl1, h1, h2⟩ := hM.maps b' k m hb hm
      have hk : k ≠ blk := fun ek => by subst ek; exact e (hM.uniq b' b k _ _ hb hβ rfl rfl)
      exact ⟨es1, cl1, by rw [hoth k hk, h1], h2.imp fun _ _ h => hext.vr h⟩
  · intro b' e g m hb hm
    have e : b' ≠ b := by rintro rfl; rw [hβ] at hb; simp at hb
    rw [List.getElem?_set_ne (Ne.symm e)] at hm
    exact hM.grsk hb hm fun k _ hk => hoth k fun ek => e (hM.uniq b' b k _ _ hb hβ hk ek.symm)

theorem updA_ok (hM : MR G w β bx) {t : TypeId} {x i v : AV} {bx' : Bx} {vx vi vv : Value} (h : updA P bx t x i v = some bx') (hx : VR w (im G w β) β x vx) (hi : VR w (im G w β) β i vi) (hv : VR w (im G w β) β v vv) :
    ∃ w', (Instr.mapUpdate t vx vi vv).run P w = .ok () w' ∧ MR G w' β bx' ∧ Ext G allq w β w' β := by
  unfold updA at h
  split at h
  case h_2 => simp at h
  rename_i b k n
  cases hi
  rw [Option.bind_eq_some_iff] at h
  obtain ⟨q, hq, h⟩ := h
  have hu := mpT_spec hq
  split at h
  case isFalse => simp at h
  rename_i hk
  have hd := inA_under hk
  have hkey : IsKey (.int k) (.int k n) := by simp [IsKey]
  rw [Option.bind_eq_some_iff] at h
  obtain ⟨l, hl, h⟩ := h
  rw [Option.map_eq_some_iff] at h
  obtain ⟨l', hl', rfl⟩ := h
  obtain ⟨blk, es, cl, hb, rfl, h1, t, rfl, h2⟩ := hM.mget hx hl
  unfold updL at hl'
  rw [Option.bind_eq_some_iff] at hl'
  obtain ⟨t', hp, hl'⟩ := hl'
  have hsz : es.size = t.length := by have := h2.1; rwa [Array.length_toList] at this
  rcases putL_ok 0 hp h2 with ⟨rfl, h3⟩ | ⟨j, e, h3, h4, rfl, h5⟩
  · rw [if_neg (by simp)] at hl'
    have hbump : bump (stH cl (es.toList.map (·.born))) = some (stH (cl + 1) ((es.push { key := .int k n, val := vv, born := cl }).toList.map (·.born))) := by
      simp [bump, stH]
    rw [hbump, Option.map_some, Option.some.injEq] at hl'
    subst hl'
    obtain ⟨m1, e1⟩ := hM.mapw (es' := es.push { key := .int k n, val := vv, born := cl }) (cl' := cl + 1) hb hl h1 (stH (cl + 1) ((es.push { key := .int k n, val := vv, born := cl }).toList.map (·.born)) :: (t ++ [.tup [.v (.int k n), v]])) (by
      refine ⟨_, rfl, by simp [hsz], fun i x e hx he => ?_⟩
      rw [List.getElem?_append] at hx
      rw [Array.getElem?_toList, Array.getElem?_push] at he
      split at hx
      · rename_i hlt
        rw [if_neg (by omega)] at he
        exact h2.2 i x e hx (by simpa using he)
      · rename_i hge
        have hi : i = t.length := by
          have := (List.getElem?_eq_some_iff.mp hx).1
          simp at this
          omega
        rw [if_pos (by omega)] at he
        subst hi
        simp at hx he
        subst hx; subst he
        exact ⟨v, rfl, hv⟩)
    refine ⟨_, ?_, m1, e1⟩
    simp only [Instr.mapUpdate, Sem.run_bind, run_under hu, Result.andThen_ok, MapKept.run_getObj_map h1, MapKept.run_checkKey hd hkey, MapKept.run_findKey hd h3, MapKept.run_setObj_map _ h1]
  · rw [if_pos (by simp), Option.some.injEq] at hl'
    subst hl'
    rw [Nat.zero_add] at h5
    have h3' : es[j]? = some e := by simpa using h3
    have hbs : (es.modify j fun e => { e with key := .int k n, val := vv }).toList.map (·.born) = es.toList.map (·.born) := by
      apply List.ext_getElem?
      intro i
      simp only [List.getElem?_map, Array.getElem?_toList, Array.getElem?_modify]
      by_cases hij : j = i
      · subst hij
        rw [if_pos rfl, h3']
        rfl
      · rw [if_neg hij]
    obtain ⟨m1, e1⟩ := hM.mapw (es' := es.modify j fun e => { e with key := .int k n, val := vv }) (cl' := cl) hb hl h1 (stH cl (es.toList.map (·.born)) :: t.set j (.tup [.v (.int k n), v])) (by
      refine ⟨_, by rw [hbs], by simp [hsz], fun i x e' hx he => ?_⟩
      rw [Array.getElem?_toList, Array.getElem?_modify] at he
      by_cases hij : j = i
      · subst hij
        rw [if_pos rfl, h3'] at he
        simp at he
        subst he
        have hlt : j < t.length := by rw [← hsz]; exact (Array.getElem?_eq_some_iff.mp h3').1
        rw [List.getElem?_set_self hlt] at hx
        simp at hx
        subst hx
        exact ⟨v, rfl, hv⟩
      · rw [if_neg hij] at he
        rw [List.getElem?_set_ne hij] at hx
        exact h2.2 i x e' hx (by simpa using he))
    refine ⟨_, ?_, m1, e1⟩
    simp only [Instr.mapUpdate, Sem.run_bind, run_under hu, Result.andThen_ok, MapKept.run_getObj_map h1, MapKept.run_checkKey hd hkey, MapKept.run_findKey hd h5, h3', Option.map_some, Option.getD_some, h4, MapKept.run_keyThatStays hkey, MapKept.run_setObj_map _ h1]

theorem map_erase {α β : Type} (f : α → β) : ∀ (l : List α) (j : Nat), (l.map f).eraseIdx j = (l.eraseIdx j).map f
  | [], _ => by simp
  | x :: l, 0 => rfl
  | x :: l, j + 1 => by simp [map_erase f l j]
theorem EsR.erase {im0 : Bool → Nat → Prop} {l : List AV} {es : List MapEntry} (h : EsR w im0 β l es) (j : Nat) : EsR w im0 β (l.eraseIdx j) (es.eraseIdx j) := by
  refine ⟨by simp only [List.length_eraseIdx, h.1], fun i x e h1 h2 => ?_⟩
  rw [List.getElem?_eraseIdx] at h1 h2
  split at h1
  · rename_i hij
    rw [if_pos hij] at h2
    exact h.2 i x e h1 h2
  · rename_i hij
    rw [if_neg hij] at h2
    exact h.2 (i + 1) x e h1 h2
theorem erase_list (es : Array MapEntry) (j : Nat) : (es.eraseIdxIfInBounds j).toList = es.toList.eraseIdx j := by
  unfold Array.eraseIdxIfInBounds
  split
  · simp only [Array.toList_eraseIdx]
  · rename_i h
    rw [List.eraseIdx_of_length_le (by rw [Array.length_toList]; omega)]
theorem idxL_ok {im0 : Bool → Nat → Prop} {k : IntKind} {n : Int} : ∀ {l : List AV} {es : List MapEntry} {r : Option Nat} (i i0 : Nat), idxL k n l i0 = some r → EsR w im0 β l es →
    (r = none ∧ Instr.findNow (.int k) (.int k n) es i = some none) ∨
    ∃ j e, es[j]? = some e ∧ r = some (i0 + j) ∧ Instr.findNow (.int k) (.int k n) es i = some (some (i + j, e.val))
  | [], [], r, i, i0, h, _ => by
    simp only [idxL, Option.some.injEq] at h
    exact .inl ⟨h.symm, rfl⟩
  | [], _ :: _, r, i, i0, _, hE => by have := hE.1; simp at this
  | _ :: _, [], r, i, i0, _, hE => by have := hE.1; simp at this
  | x :: l, e :: es, r, i, i0, h, hE => by
    obtain ⟨⟨x', rfl, hx⟩, hE'⟩ := hE.cons
    obtain ⟨ek, ev, eb⟩ := e
    cases ek <;> simp only [idxL, reduceCtorEq] at h
    rename_i k' m
    split at h
    · rename_i hk
      subst hk
      split at h
      · rename_i hm
        simp only [Option.some.injEq] at h
        subst h
        have hm' : n = m := by simpa using hm
        subst hm'
        exact .inr ⟨0, _, rfl, rfl, by simp [Instr.findNow, Instr.sameNow]⟩
      · rename_i hm
        have hm' : (n == m) = false := by simpa using hm
        rcases idxL_ok (i + 1) (i0 + 1) h hE' with ⟨h1, h2⟩ | ⟨j, e, h1, h3, h4⟩
        · exact .inl ⟨h1, by simp only [Instr.findNow, Instr.sameNow, if_true, hm', h2]⟩
        · exact .inr ⟨j + 1, e, by simpa using h1, by rw [h3]; congr 1; omega, by simp only [Instr.findNow, Instr.sameNow, if_true, hm', h4]; congr 3; omega⟩
    · simp at h
theorem clrM_ok (hM : MR G w β bx) {t u : TypeId} {ts : Array TypeId} {x : AV} {bx' : Bx} {v : Value} (hm : isMp P t = true) (h : clrM bx x = some bx') (ht : ts[0]? = some t) (hx : VR w (im G w β) β x v) :
    New P G w β (Builtin.clear_ ts u #[v]) (.v (.tuple #[])) bx' := by
  unfold isMp at hm
  obtain ⟨q, hq⟩ := Option.isSome_iff_exists.1 hm
  have hu := mpT_spec hq
  unfold clrM at h
  split at h
  · rename_i b
    rw [Option.bind_eq_some_iff] at h
    obtain ⟨l, hl, h⟩ := h
    obtain ⟨blk, es, cl, hb, rfl, h1, t, rfl, h2⟩ := hM.mget hx hl
    simp only [stH, Option.some.injEq] at h
    subst h
    obtain ⟨m1, e1⟩ := hM.mapw (es' := #[]) (cl' := cl) hb hl h1 [stH cl []] ⟨[], rfl, rfl, fun i x e hx => by simp at hx⟩
    refine ⟨.tuple #[], _, β, ?_, e1, m1, .v _⟩
    simp [Builtin.clear_, ht, run_under hu, MapKept.run_getObj_map h1, MapKept.run_setObj_map _ h1]
  · simp only [Option.some.injEq] at h
    subst h
    cases hx
    refine ⟨.tuple #[], w, β, ?_, .refl _ _ _ _, hM, .v _⟩
    simp [Builtin.clear_, ht, run_under hu]
  · simp at h
theorem delA_ok (hM : MR G w β bx) {t u : TypeId} {ts : Array TypeId} {x i : AV} {bx' : Bx} {vx vi : Value} (h : delA P bx t x i = some bx') (ht : ts[0]? = some t) (hx : VR w (im G w β) β x vx) (hi : VR w (im G w β) β i vi) :
    New P G w β (Builtin.delete_ ts u #[vx, vi]) (.v (.tuple #[])) bx' := by
  unfold delA at h
  split at h
  case h_2 => simp at h
  rename_i k n
  cases hi
  rw [Option.bind_eq_some_iff] at h
  obtain ⟨q, hq, h⟩ := h
  have hu := mpT_spec hq
  split at h
  case isFalse => simp at h
  rename_i hk
  have hd := inA_under hk
  have hkey : IsKey (.int k) (.int k n) := by simp [IsKey]
  split at h
  · rename_i b
    rw [Option.bind_eq_some_iff] at h
    obtain ⟨l, hl, h⟩ := h
    rw [Option.map_eq_some_iff] at h
    obtain ⟨l', hl', rfl⟩ := h
    obtain ⟨blk, es, cl, hb, rfl, h1, t, rfl, h2⟩ := hM.mget hx hl
    simp only [stH, delL, Option.map_eq_some_iff] at hl'
    obtain ⟨r, hr, rfl⟩ := hl'
    rcases idxL_ok 0 0 hr h2 with ⟨rfl, h3⟩ | ⟨j, e, h3, rfl, h5⟩
    · obtain ⟨m1, e1⟩ := hM.mapw (es' := es) (cl' := cl) hb hl h1 (stH cl (es.toList.map (·.born)) :: t) ⟨t, rfl, h2⟩
      refine ⟨.tuple #[], _, β, ?_, e1, m1, .v _⟩
      simp [Builtin.delete_, ht, run_under hu, MapKept.run_getObj_map h1, MapKept.run_checkKey hd hkey, MapKept.run_findKey hd h3, MapKept.run_setObj_map _ h1]
    · rw [Nat.zero_add] at h5
      simp only [Nat.zero_add, map_erase]
      obtain ⟨m1, e1⟩ := hM.mapw (es' := es.eraseIdxIfInBounds j) (cl' := cl) hb hl h1 (stH cl ((es.toList.eraseIdx j).map (·.born)) :: t.eraseIdx j) ⟨_, by rw [erase_list], by rw [erase_list]; exact h2.erase j⟩
      refine ⟨.tuple #[], _, β, ?_, e1, m1, .v _⟩
      simp [Builtin.delete_, ht, run_under hu, MapKept.run_getObj_map h1, MapKept.run_checkKey hd hkey, MapKept.run_findKey hd h5, MapKept.run_setObj_map _ h1]
  · simp only [Option.some.injEq] at h
    subst h
    cases hx
    refine ⟨.tuple #[], w, β, ?_, .refl _ _ _ _, hM, .v _⟩
    simp [Builtin.delete_, ht, run_under hu, MapKept.run_checkKey hd hkey]
  · simp at h

theorem makeMap_ok (hM : MR G w β bx) (t : TypeId) : New P G w β (Instr.makeMap t none) (.mp bx.length) (bx ++ [[.tup [.v (.int .i64 0)]]]) := by
  obtain ⟨hnew, hold⟩ := MapKept.heap_alloc w (.map #[] 0)
  generalize hW : w.alloc (.map #[] 0) = w' at hnew hold
  have hsize : w'.heap.size = w.heap.size + 1 := by rw [← hW]; exact World.size_alloc ..
  have hout : w'.os = w.os ∧ w'.output = w.output ∧ w'.tape = w.tape := by rw [← hW]; exact ⟨rfl, rfl, rfl⟩
  have hget : ∀ (b : Nat) (p : Lie), (β ++ [.mpl w.heap.size])[b]? = some p → β[b]? = some p ∨ (b = β.length ∧ p = .mpl w.heap.size) := by
    intro b p hb
    rw [List.getElem?_append] at hb
    split at hb
    · exact .inl hb
    · rename_i hge
      obtain ⟨h1, h2⟩ := List.getElem?_eq_some_iff.mp hb
      simp at h1
      refine .inr ⟨by omega, ?_⟩
      have : b - β.length = 0 := by omega
      simp [this] at h2
      exact h2.symm
  have hown : ∀ k, owned (β ++ [.mpl w.heap.size]) k → owned β k ∨ k = w.heap.size := by
    rintro k ⟨b, p, hb, hp⟩
    rcases hget b _ hb with h | ⟨_, h⟩
    · exact .inl ⟨b, p, h, hp⟩
    · subst h; exact .inr (Eq.symm hp)
  have hbt : ∀ (b : Nat) (p : Lie), β[b]? = some p → (β ++ [.mpl w.heap.size])[b]? = some p := by
    intro b p hb
    rw [List.getElem?_append_left (List.getElem?_eq_some_iff.mp hb).1]; exact hb
  have hext : Ext G allq w β w' (β ++ [.mpl w.heap.size]) := by
    refine ⟨by omega, fun k hk _ => hold k (by have := hM.sz; omega), ?_, .same fun b p _ hb => hbt b p hb, ?_, ?_, hout⟩
    · intro f k hi
      have hk : k < w.heap.size := hM.imlt hi
      refine ⟨hi.imp id fun h => ⟨h.1, by omega, fun ho => ?_⟩, fun j => cell_heap (hold k hk) j⟩
      rcases hown k ho with h1 | h1
      · exact h.2.2 h1
      · omega
    · intro b k o c1 E1 fz1 _ hb hc1
      exact ⟨c1, fz1, by rw [hold k (hM.lies_lt hb rfl), hc1], rfl⟩
    · intro k hk ho
      rcases hown k ho with h | h
      · exact h
      · have := hM.sz; omega
  have hin : (β ++ [.mpl w.heap.size])[bx.length]? = some (.mpl w.heap.size) := by
    rw [List.getElem?_append_right (by rw [hM.len]; exact Nat.le_refl _)]; simp [hM.len]
  refine ⟨.map (some w.heap.size), w', _, ?_, hext, ⟨by simp [hM.len], ?_, ?_, ?_, ?_, hM.frle, ?_, by have := hM.sz; omega⟩, .mp _ _ hin⟩
  · rw [← hW]
    simp only [Instr.makeMap, Sem.run_bind, Sem.run_pure, Result.andThen_ok, run_newObj]
    rfl
  · intro b b' k p p' hb hb' hp hp'
    rcases hget b _ hb with h | ⟨h, h2⟩ <;> rcases hget b' _ hb' with h' | ⟨h', h2'⟩
    · exact hM.uniq b b' k p p' h h' hp hp'
    · subst h2'; have := hM.lies_lt h hp; have : w.heap.size = k := hp'; omega
    · subst h2; have := hM.lies_lt h' hp'; have : w.heap.size = k := hp; omega
    · omega
  · intro b k o m hb hm
    rcases hget b _ hb with h | ⟨h, h2⟩
    · have hlt : b < bx.length := by have := (List.getElem?_eq_some_iff.mp h).1; rw [hM.len] at this; exact this
      rw [List.getElem?_append_left hlt] at hm
      obtain ⟨c1, E1, fz1, h1, h2, h3, h4, h5⟩ := hM.born b k o m h hm
      exact ⟨c1, E1, fz1, by rw [hold k (hM.lies_lt h rfl), h1], h2, h3, h4, fun i x y hx hy => hext.vr (h5 i x y hx hy)⟩
    · simp at h2
  · intro b k m hb hm
    rcases hget b _ hb with h | ⟨h, h2⟩
    · have hlt : b < bx.length := by have := (List.getElem?_eq_some_iff.mp h).1; rw [hM.len] at this; exact this
      rw [List.getElem?_append_left hlt] at hm
      obtain ⟨es, cl, h1, h2⟩ := hM.maps b k m h hm
      exact ⟨es, cl, by rw [hold k (hM.lies_lt h rfl), h1], h2.imp fun _ _ h => hext.vr h⟩
    · simp at h2
      subst h2
      rw [List.getElem?_append_right (by rw [h, hM.len]; exact Nat.le_refl _)] at hm
      have : b - bx.length = 0 := by rw [h, hM.len]; omega
      simp [this] at hm
      subst hm
      exact ⟨#[], 0, hnew, [], rfl, rfl, fun i x e hx => by simp at hx⟩
  · intro b e g m hb hm
    rcases hget b _ hb with h | ⟨h, h2⟩
    · have hlt : b < bx.length := by have := (List.getElem?_eq_some_iff.mp h).1; rw [hM.len] at this; exact this
      rw [List.getElem?_append_left hlt] at hm
      exact hM.grsk h hm fun k hk _ => hold k hk
    · simp at h2
  · intro k hk
    refine ⟨(hM.leold k hk).1, fun ho => ?_⟩
    rcases hown k ho with h | h
    · exact (hM.leold k hk).2 h
    · have := (hM.leold k hk).1; have := hM.sz; omega
end
end Go.Sy

/-
  Layer 12: what dirent.Check answers: it ranges over a text, which the reader does not read.
-/
import Derived.Test.YtmegbgmgpogfoaaProg
import Derived.Tactics
import Derived.Tactics2
import Derived.StillTactics
import Derived.Laws.RangeAny
import Derived.Laws.Strings
import Derived.Laws.Strings2
import Derived.Laws.Strings3
import Derived.Laws.Small
import Derived.Laws.Sem
import Derived.Scope
import Derived.FnLit
import Derived.LoopTactic
namespace Go.Proofs.Ytmegbgmgpogfoaa
open Go.Proofs

/-- a byte that a name may have -/
def good (c : Nat) : Bool := decide (33 ≤ c) && decide (c ≤ 126) && !(c == 47)
/-- is it a name? -/
def isName (l : List UInt8) : Bool := decide (1 ≤ l.length) && decide (l.length ≤ 10) && !(l == [46]) && !(l == [46, 46]) && l.all fun c => good c.toNat
def chk (l : List UInt8) : Int := if isName l then 0 else 45

theorem lst (s : ByteArray) : s.toList = s.data.toList := by
  obtain ⟨⟨a⟩⟩ := s
  exact ByteArray.toList_mk a
theorem chk_bad {l : List UInt8} (h : isName l = false) : chk l = 45 := by unfold chk; rw [h]; rfl
theorem chk_empty {s : ByteArray} (h : s = ByteArray.empty) : chk s.data.toList = 45 := by subst h; rfl
theorem chk_long {s : ByteArray} (h : ¬ (s.size : Int) ≤ 10) : chk s.data.toList = 45 := by
  refine chk_bad ?_
  have h2 : s.data.toList.length = s.size := rfl
  unfold isName
  rw [decide_eq_false (show ¬ s.data.toList.length ≤ 10 by omega)]
  simp
theorem chk_dot {s : ByteArray} (h : s.toList = [46]) : chk s.data.toList = 45 := by
  rw [lst] at h
  rw [h]
  rfl
theorem chk_dots {s : ByteArray} (h : s.toList = [46, 46]) : chk s.data.toList = 45 := by
  rw [lst] at h
  rw [h]
  rfl

theorem get_d (s : ByteArray) (i : Nat) (h : i < s.size) : s.data.toList[i]? = some (s[i]'h) := by
  have h2 : s.data.toList.length = s.size := rfl
  rw [List.getElem?_eq_getElem (by omega)]
  rfl
theorem chk_at {s : ByteArray} {i : Nat} (h : i < s.size) (hg : good (s[i]'h).toNat = false) : chk s.data.toList = 45 := by
  refine chk_bad ?_
  unfold isName
  have : (s.data.toList.all fun c => good c.toNat) = false := by
    rw [Bool.eq_false_iff]
    intro ha
    rw [List.all_eq_true] at ha
    have := ha _ (List.mem_of_getElem? (get_d s i h))
    rw [hg] at this
    simp at this
  rw [this]
  simp
theorem chk_ok {s : ByteArray} (h0 : ¬ s = ByteArray.empty) (h1 : (s.size : Int) ≤ 10) (h2 : ¬ s.toList = [46]) (h3 : ¬ s.toList = [46, 46]) (hg : ∀ i (h : i < s.size), good (s[i]'h).toNat = true) : chk s.data.toList = 0 := by
  have hl : s.data.toList.length = s.size := rfl
  rw [lst] at h2 h3
  have hp : 1 ≤ s.data.toList.length := by
    rcases Nat.eq_zero_or_pos s.data.toList.length with h | h
    · exfalso
      apply h0
      obtain ⟨a⟩ := s
      have : a = #[] := Array.eq_empty_of_size_eq_zero h
      rw [this]
      rfl
    · exact h
  have ha : (s.data.toList.all fun c => good c.toNat) = true := by
    rw [List.all_eq_true]
    intro c hc
    obtain ⟨i, hi⟩ := List.getElem?_of_mem hc
    have hlt : i < s.size := by have := (List.getElem?_eq_some_iff.1 hi).1; omega
    rw [get_d s i hlt] at hi
    simp only [Option.some.injEq] at hi
    rw [← hi]
    exact hg i hlt
  unfold chk isName
  rw [decide_eq_true hp, decide_eq_true (show s.data.toList.length ≤ 10 by omega), ha]
  have e2 : (s.data.toList == [46]) = false := by simpa using h2
  have e3 : (s.data.toList == [46, 46]) = false := by simpa using h3
  rw [e2, e3]
  rfl
theorem dec_ok (s : ByteArray) (pos : Nat) (h : pos < s.size) (h1 : 33 ≤ (Utf8.decode s pos).1) (h2 : (Utf8.decode s pos).1 ≤ 126) (h3 : (Utf8.decode s pos).1 ≠ 47) : good (s[pos]'h).toNat = true ∧ (Utf8.decode s pos).2 = 1 := by
  by_cases ha : (s[pos]'h).toNat < 128
  · have hd := decode_ascii s pos h ha
    rw [hd] at h1 h2 h3 ⊢
    simp only at h1 h2 h3 ⊢
    refine ⟨?_, trivial⟩
    unfold good
    rw [decide_eq_true h1, decide_eq_true h2]
    simpa using h3
  · have := (decode_high s pos h (by omega)).1
    omega
theorem dec_bad (s : ByteArray) (pos : Nat) (h : pos < s.size) (hb : (Utf8.decode s pos).1 < 33 ∨ 126 < (Utf8.decode s pos).1 ∨ (Utf8.decode s pos).1 = 47) : good (s[pos]'h).toNat = false := by
  by_cases ha : (s[pos]'h).toNat < 128
  · have hd := decode_ascii s pos h ha
    rw [hd] at hb
    simp only at hb
    unfold good
    rcases hb with hb | hb | hb
    · rw [decide_eq_false (by omega)]; rfl
    · rw [decide_eq_false (show ¬ (s[pos]'h).toNat ≤ 126 by omega)]; simp
    · rw [hb]; rfl
  · unfold good
    rw [decide_eq_false (show ¬ (s[pos]'h).toNat ≤ 126 by omega)]; simp

/-- what holds at a round's head -/
structure Hd (s : ByteArray) (w wr : World) : Prop where
  ex : ∃ pos : Nat, wr = w.iter s pos ∧ pos ≤ s.size ∧ ∀ i (_ : i < pos) (hs : i < s.size), good (s[i]'hs).toNat = true

set_option maxRecDepth 1000000 in
set_option maxHeartbeats 4000000 in
theorem check_walk (s : ByteArray) (w : World) :
    Calls Try.prog 11 #[.string s] w fun e w' => e = .returned (.int .i64 (chk s.data.toList)) ∧ (w' = w ∨ ∃ pos, w' = w.iter s pos) := by
  go_enter Try.func11, Try.ntmps11
  go_wp2
  all_goals first
    | (go_ret; first | exact ⟨by rw [chk_empty (by assumption)]; rfl, .inl rfl⟩ | exact ⟨by rw [chk_long (by omega)]; rfl, .inl rfl⟩ | exact ⟨by rw [chk_dot (by assumption)]; rfl, .inl rfl⟩ | exact ⟨by rw [chk_dots (by assumption)]; rfl, .inl rfl⟩ | exact ⟨by rw [chk_dots (eq_of_beq (by assumption))]; rfl, .inl rfl⟩ | exact ⟨by rw [chk_dot (eq_of_beq (by assumption))]; rfl, .inl rfl⟩ | exact ⟨by rw [chk_dots (by rename_i h; rcases h with ((h | h) | h) | h <;> first | exact eq_of_beq h | (exfalso; simp_all; done) | (exfalso; omega))]; rfl, .inl rfl⟩)
    | skip
  all_goals first
    | (exfalso; simp_all; done)
    | skip
  rotate_right
  · show Code.wp _ _ _ _ _
    go_loopw [] (fun wr => Hd s w wr) (fun wr => s.size - wr.iterPos w.heap.size)
    case atStart => exact ⟨⟨0, rfl, by omega, by intro i h; omega⟩⟩
    case round =>
      obtain ⟨⟨pos, rfl, hle, hg⟩⟩ := hrel
      by_cases hp : pos < s.size
      · have hnx : ∀ ty, (Instr.next (.pointer (some ⟨w.heap.size, 0, none⟩)) true ty).run Try.prog (w.iter s pos) = _ := fun ty => run_next_any w s pos ty hp
        go_wp2
        all_goals first
          | (exfalso; simp_all; done)
          | skip
        all_goals first
          | (go_ret
             have hb : (Utf8.decode s pos).1 < 33 ∨ 126 < (Utf8.decode s pos).1 ∨ (Utf8.decode s pos).1 = 47 := by
               first
                 | omega
                 | (rename_i h
                    rcases h with (h | h) | h
                    · omega
                    · omega
                    · have := eq_of_beq h
                      omega)
             exact ⟨by rw [chk_at hp (dec_bad s pos hp hb)]; rfl, .inr ⟨_, rfl⟩⟩)
          | skip
        rename_i h
        obtain ⟨⟨h1, h2⟩, h3⟩ := h
        have h3' : (Utf8.decode s pos).1 ≠ 47 := by
          intro e
          rw [e] at h3
          simp at h3
        obtain ⟨g1, g2⟩ := dec_ok s pos hp (by omega) (by omega) h3'
        refine ⟨⟨⟨pos + (Utf8.decode s pos).2, rfl, by omega, fun i hi hs => ?_⟩⟩, ?_⟩
        · rw [g2] at hi
          rcases Nat.lt_or_ge i pos with hlt | hge
          · exact hg i hlt hs
          · obtain rfl : i = pos := by omega
            exact g1
        · first
            | omega
            | (simp; omega)
      · have hnx : ∀ ty, (Instr.next (.pointer (some ⟨w.heap.size, 0, none⟩)) true ty).run Try.prog (w.iter s pos) = _ := fun ty => run_next_end w s pos ty hp
        go_wp2
        go_ret
        have hps : pos = s.size := by omega
        subst hps
        exact ⟨by rw [chk_ok (by assumption) (by assumption) (by assumption) (by simp_all) (fun i h => hg i h h)]; rfl, .inr ⟨_, rfl⟩⟩
end Go.Proofs.Ytmegbgmgpogfoaa

/-
  evlog: rows in a list that rises, as the document has them; they are those of the map, plain.
  evlog, plain: what the law's rows asks.
  CRC-32C: a step; the table.
  CRC-32C: the table; bytes taken.
  CRC-32C: bytes taken; the sum of parts.
  CRC-32C: the sum of one part; its bytes.
-/
import Derived.Test.YtgffifleflkjoaaGreatG06
import Derived.Test.YtgffifleflkjoaaGreatG07
import Derived.Test.YtgffifleflkjoaaGreatG11
import Derived.Maps.Views
import Derived.Laws.BitsAllLaws
import Derived.Deep.LoopGhost
import Derived.Laws.Rows
import Derived.Laws.Tables

namespace Go.Proofs.YtgffifleflkjoaaGreat.Em
open Go.Maps Cm

abbrev Pairs := List (Bytes × Bytes)

/-- The keys rise. -/
def Strict (l : Pairs) : Prop := l.Pairwise (fun a b => a.1 ≤ b.1 ∧ a.1 ≠ b.1)

def tell (D : Rows) : Pairs := (skeys D).map fun k => (k, valueOf D k)

def rgo (c : Change) : Bool → Pairs → Pairs
  | put, [] => if put = true then [] else [(c.key, c.value)]
  | put, r :: l => (if put = false ∧ c.key ≤ r.1 then [(c.key, c.value)] else []) ++ ((if r.1 ≠ c.key then [r] else []) ++ rgo c (put || decide (c.key ≤ r.1)) l)
def rdone (rows : Pairs) (c : Change) : Pairs := rgo c c.gone rows

theorem mem_rgo (c : Change) (x : Bytes × Bytes) : ∀ (l : Pairs) (put : Bool), x ∈ rgo c put l ↔ (x ∈ l ∧ x.1 ≠ c.key) ∨ (put = false ∧ x = (c.key, c.value)) := by
  intro l
  induction l with
  | nil =>
    intro put
    cases put <;> simp [rgo]
  | cons r l ih =>
    intro put
    rw [rgo, List.mem_append, List.mem_append, ih]
    have h1 : x ∈ (if r.1 ≠ c.key then [r] else []) ↔ x = r ∧ x.1 ≠ c.key := by
      by_cases h : r.1 ≠ c.key
      · rw [if_pos h]
        constructor
        · intro hx
          have : x = r := by simpa using hx
          exact ⟨this, by rw [this]; exact h⟩
        · rintro ⟨rfl, _⟩; simp
      · rw [if_neg h]
        constructor
        · intro hx; cases hx
        · rintro ⟨rfl, hx⟩; exact absurd hx h
    rw [h1, List.mem_cons]
    by_cases hk : c.key ≤ r.1
    · cases put
      · rw [if_pos ⟨rfl, hk⟩]
        have hd : decide (c.key ≤ r.1) = true := by simpa using hk
        rw [hd]
        simp only [Bool.false_or, List.mem_singleton]
        constructor
        · rintro (h | ⟨h, h'⟩ | ⟨h, h'⟩ | ⟨h, _⟩)
          · exact Or.inr ⟨trivial, h⟩
          · exact Or.inl ⟨Or.inl h, h'⟩
          · exact Or.inl ⟨Or.inr h, h'⟩
          · cases h
        · rintro (⟨h | h, h'⟩ | ⟨_, h⟩)
          · exact Or.inr (Or.inl ⟨h, h'⟩)
          · exact Or.inr (Or.inr (Or.inl ⟨h, h'⟩))
          · exact Or.inl h
      · rw [if_neg (by simp)]
        simp only [Bool.true_or, List.not_mem_nil, false_or]
        constructor
        · rintro (⟨h, h'⟩ | ⟨h, h'⟩ | ⟨h, _⟩)
          · exact Or.inl ⟨Or.inl h, h'⟩
          · exact Or.inl ⟨Or.inr h, h'⟩
          · cases h
        · rintro (⟨h | h, h'⟩ | ⟨h, _⟩)
          · exact Or.inl ⟨h, h'⟩
          · exact Or.inr (Or.inl ⟨h, h'⟩)
          · cases h
    · rw [if_neg (fun h => hk h.2)]
      have hd : decide (c.key ≤ r.1) = false := by simpa using hk
      rw [hd, Bool.or_false]
      simp only [List.not_mem_nil, false_or]
      constructor
      · rintro (⟨h, h'⟩ | ⟨h, h'⟩ | h)
        · exact Or.inl ⟨Or.inl h, h'⟩
        · exact Or.inl ⟨Or.inr h, h'⟩
        · exact Or.inr h
      · rintro (⟨h | h, h'⟩ | h)
        · exact Or.inl ⟨h, h'⟩
        · exact Or.inr (Or.inl ⟨h, h'⟩)
        · exact Or.inr (Or.inr h)

theorem lt_trans {a b c : Bytes} (h1 : a ≤ b) (n1 : a ≠ b) (h2 : b ≤ c) : a ≤ c ∧ a ≠ c := ⟨List.le_trans h1 h2, fun e => by subst e; exact n1 (List.le_antisymm h1 h2)⟩
theorem lt_trans' {a b c : Bytes} (h1 : a ≤ b) (h2 : b ≤ c) (n2 : b ≠ c) : a ≤ c ∧ a ≠ c := ⟨List.le_trans h1 h2, fun e => by subst e; exact n2 (List.le_antisymm h2 h1)⟩
theorem of_not_le {a b : Bytes} (h : ¬ a ≤ b) : b ≤ a ∧ b ≠ a := ⟨(List.le_total a b).resolve_left h, fun e => h (by subst e; exact List.le_refl _)⟩

theorem strict_rgo (c : Change) : ∀ (l : Pairs) (put : Bool), Strict l → Strict (rgo c put l) := by
  intro l
  induction l with
  | nil =>
    intro put _
    cases put <;> simp [rgo, Strict]
  | cons r l ih =>
    intro put h
    obtain ⟨h1, h2⟩ := List.pairwise_cons.1 h
    have hs := ih (put || decide (c.key ≤ r.1)) h2
    -- what stands behind r rises, and is beyond it
    have back : Strict ((if r.1 ≠ c.key then [r] else []) ++ rgo c (put || decide (c.key ≤ r.1)) l) := by
      by_cases hr : r.1 ≠ c.key
      · rw [if_pos hr]
        refine List.pairwise_cons.2 ⟨fun x hx => ?_, hs⟩
        rcases (mem_rgo c x l _).1 hx with ⟨hx, _⟩ | ⟨hp, rfl⟩
        · exact h1 x hx
        · have hk : ¬ c.key ≤ r.1 := by
            intro hk
            have : decide (c.key ≤ r.1) = true := by simpa using hk
            rw [this, Bool.or_true] at hp
            cases hp
          exact of_not_le hk
      · rw [if_neg hr]; exact hs
    rw [rgo]
    by_cases hk : put = false ∧ c.key ≤ r.1
    · rw [if_pos hk]
      refine List.pairwise_cons.2 ⟨fun x hx => ?_, back⟩
      have hd : (put || decide (c.key ≤ r.1)) = true := by rw [hk.1]; simpa using hk.2
      rcases List.mem_append.1 (show x ∈ (if r.1 ≠ c.key then [r] else []) ++ rgo c (put || decide (c.key ≤ r.1)) l from hx) with hx | hx
      · by_cases hr : r.1 ≠ c.key
        · rw [if_pos hr] at hx
          have : x = r := by simpa using hx
          subst this
          exact ⟨hk.2, fun e => hr e.symm⟩
        · rw [if_neg hr] at hx; cases hx
      · rw [hd] at hx
        rcases (mem_rgo c x l _).1 hx with ⟨hx, hn⟩ | ⟨hp, _⟩
        · exact ⟨List.le_trans hk.2 (h1 x hx).1, fun e => hn e.symm⟩
        · cases hp
    · rw [if_neg hk]; exact back

/-- Two that rise and have the same are one. -/
theorem strict_ext {l l' : Pairs} (h : Strict l) (h' : Strict l') (hm : ∀ x, x ∈ l ↔ x ∈ l') : l = l' := by
  have nd : ∀ {l : Pairs}, Strict l → l.Nodup := fun h => h.imp (fun hab e => hab.2 (by rw [e]))
  refine List.Perm.eq_of_pairwise (le := fun a b : Bytes × Bytes => a.1 ≤ b.1 ∧ a.1 ≠ b.1) (fun a b _ _ h1 h2 => absurd (List.le_antisymm h1.1 h2.1) h1.2) h h' ?_
  exact (List.perm_ext_iff_of_nodup (nd h) (nd h')).2 hm

theorem skeys_has {D : Rows} (h : RowsOk D) (k : Bytes) : k ∈ skeys D ↔ has D (.string k) = true := by
  obtain ⟨es, rfl, h⟩ := h
  rw [show k ∈ skeys (.map es) ↔ k ∈ strKeys (.map es) from (List.mergeSort_perm _ _).mem_iff, has_eq, List.any_eq_true]
  show k ∈ es.map (fun p => strOf p.1) ↔ _
  rw [List.mem_map]
  constructor
  · rintro ⟨p, hp, rfl⟩
    obtain ⟨k', v, rfl, _⟩ := h p hp
    exact ⟨_, hp, by simp [strOf, Lit.sameKey]⟩
  · rintro ⟨p, hp, hk⟩
    obtain ⟨k', v, rfl, _⟩ := h p hp
    refine ⟨_, hp, ?_⟩
    by_cases e : (Lit.string k') = .string k
    · cases e; rfl
    · rw [sameKey_ne e] at hk; cases hk

theorem mem_tell {D : Rows} (h : RowsOk D) (x : Bytes × Bytes) : x ∈ tell D ↔ has D (.string x.1) = true ∧ x.2 = valueOf D x.1 := by
  unfold tell
  rw [List.mem_map]
  constructor
  · rintro ⟨k, hk, rfl⟩
    exact ⟨(skeys_has h k).1 hk, rfl⟩
  · rintro ⟨h1, h2⟩
    exact ⟨x.1, (skeys_has h x.1).2 h1, by rw [← h2]⟩

theorem tell_strict {D : Rows} (h : RowsOk D) (ht : Tidy D) : Strict (tell D) := by
  obtain ⟨es, rfl, h⟩ := h
  obtain ⟨es', e, hp⟩ := ht
  cases e
  have tr : ∀ a b c : Bytes, leB a b = true → leB b c = true → leB a c = true := fun a b c h1 h2 => by simp only [leB, decide_eq_true_eq] at *; exact List.le_trans h1 h2
  have tot : ∀ a b : Bytes, (leB a b || leB b a) = true := fun a b => by simp only [leB, Bool.or_eq_true, decide_eq_true_eq]; exact List.le_total a b
  have s1 := List.pairwise_mergeSort tr tot (strKeys (.map es))
  have nd : (strKeys (.map es)).Nodup := by
    show (es.map fun p => strOf p.1).Nodup
    refine List.pairwise_map.2 (hp.imp_of_mem fun {p q} hp' hq' hne e => hne ?_)
    obtain ⟨a, _, rfl, _⟩ := h p hp'
    obtain ⟨b, _, rfl, _⟩ := h q hq'
    exact congrArg Lit.string e
  have nd2 : (skeys (.map es)).Nodup := (List.mergeSort_perm _ _).nodup_iff.2 nd
  unfold Strict tell
  rw [List.pairwise_map]
  have := s1.and nd2
  exact this.imp (fun hab => ⟨by simpa [leB] using hab.1, hab.2⟩)

theorem tidy_one {D : Rows} (h : Tidy D) (c : Change) : Tidy (one D c) := by
  unfold one
  split
  · exact h.del _
  · exact h.put (show WideAt.IsKeyLit (.string c.key) from trivial) _

theorem tell_one {D : Rows} (h : RowsOk D) (ht : Tidy D) {c : Change} (h1 : c.wrong = false) (h2 : c.long = false) : tell (one D c) = rdone (tell D) c := by
  have hm : IsMap D := ht.isMap
  refine strict_ext (tell_strict (rowsOk_one h h1 h2) (tidy_one ht c)) (strict_rgo c _ _ (tell_strict h ht)) (fun x => ?_)
  obtain ⟨k, v⟩ := x
  rw [mem_tell (rowsOk_one h h1 h2)]
  unfold rdone
  rw [mem_rgo, mem_tell h]
  unfold one
  by_cases hg : c.gone = true
  · rw [if_pos hg, hg]
    by_cases hk : k = c.key
    · subst hk
      simp [has_del_same]
    · have hk' : (Lit.string k) ≠ .string c.key := fun e => hk (by cases e; rfl)
      have e1 : valueOf (D.del (.string c.key)) k = valueOf D k := by unfold valueOf; rw [atKey_del_other hk']
      simp only [has_del_other hk', e1]
      simp [hk]
  · have hg : c.gone = false := by simpa using hg
    rw [if_neg (by rw [hg]; decide), hg]
    by_cases hk : k = c.key
    · subst hk
      have e1 : valueOf (D.put (.string c.key) (.lit (.string c.value))) c.key = c.value := by unfold valueOf; rw [atKey_put_same hm (show WideAt.IsKeyLit (.string c.key) from trivial)]
      simp only [has_put_same hm (show WideAt.IsKeyLit (.string c.key) from trivial), e1]
      simp
    · have hk' : (Lit.string k) ≠ .string c.key := fun e => hk (by cases e; rfl)
      have e1 : valueOf (D.put (.string c.key) (.lit (.string c.value))) k = valueOf D k := by unfold valueOf; rw [atKey_put_other hk']
      simp only [has_put_other hk', e1]
      simp [hk]

theorem tell_fold {l : List Change} (h1 : ∀ c ∈ l, c.wrong = false ∧ c.long = false) : ∀ {D : Rows}, RowsOk D → Tidy D → tell (behind D l) = l.foldl rdone (tell D) ∧ Tidy (behind D l) := by
  induction l with
  | nil => exact fun _ ht => ⟨rfl, ht⟩
  | cons c l ih =>
    intro D h ht
    have hc := h1 c (List.mem_cons_self ..)
    have := ih (fun x hx => h1 x (List.mem_cons_of_mem _ hx)) (rowsOk_one h hc.1 hc.2) (tidy_one ht c)
    rw [List.foldl_cons, ← tell_one h ht hc.1 hc.2]
    exact this

theorem tell_len (D : Rows) : (tell D).length = size D := by unfold tell; rw [List.length_map, skeys_len]

/-- All, as the document says it. -/
def rall (rows : Pairs) (l : List Change) : Pairs × Int := if right l ≠ 0 then (rows, right l) else if 256 < (l.foldl rdone rows).length then (rows, 3) else (l.foldl rdone rows, 0)

theorem rall_tell {D : Rows} (h : RowsOk D) (ht : Tidy D) (l : List Change) : rall (tell D) l = if doneErr D l = 0 then (tell (behind D l), 0) else (tell D, doneErr D l) := by
  unfold rall doneErr
  by_cases hr : right l ≠ 0
  · rw [if_pos hr, if_pos hr, if_neg hr]
  · rw [if_neg hr, if_neg hr]
    have hr : right l = 0 := by omega
    obtain ⟨e1, _⟩ := tell_fold (right_zero hr).2 h ht
    rw [← e1, tell_len]
    by_cases h256 : 256 < size (behind D l)
    · rw [if_pos h256, if_pos h256]; rfl
    · rw [if_neg h256, if_neg h256]; rfl

end Go.Proofs.YtgffifleflkjoaaGreat.Em

namespace Go.Proofs.YtgffifleflkjoaaGreat.Em
open Go.Maps Cm

theorem has_row {D : Rows} (h : RowsOk D) {k : Bytes} (hk : has D (.string k) = true) : k ≠ [] ∧ k.length ≤ 64 := by
  have hm := (skeys_has h k).2 hk
  obtain ⟨es, rfl, h⟩ := h
  have hm : k ∈ strKeys (.map es) := (List.mergeSort_perm _ _).mem_iff.1 hm
  have hm : k ∈ es.map (fun p => strOf p.1) := hm
  obtain ⟨p, hp, rfl⟩ := List.mem_map.1 hm
  obtain ⟨k', v, rfl, a, b, _⟩ := h p hp
  exact ⟨a, b⟩

theorem tell_key {D : Rows} (h : RowsOk D) {x : Bytes × Bytes} (hx : x ∈ tell D) : has D (.string x.1) = true ∧ valueOf D x.1 = x.2 ∧ x.1.length ≤ 64 := by
  obtain ⟨h1, h2⟩ := (mem_tell h x).1 hx
  exact ⟨h1, h2.symm, (has_row h h1).2⟩

theorem has_none {D : Rows} (h : RowsOk D) : has D (.string []) = false := by
  cases q : has D (.string [])
  · rfl
  · exact absurd rfl (has_row h q).1

/-- So many of them are alike. -/
def Alike (A B : Pairs) (k : Nat) : Prop := A.take k = B.take k ∧ k ≤ B.length

theorem alike_zero (A B : Pairs) : Alike A B 0 := ⟨rfl, Nat.zero_le _⟩

theorem alike_next {A B : Pairs} {k : Nat} {x : Bytes × Bytes} (h : Alike A B k) (ha : A[k]? = some x) (hb : B[k]? = some x) : Alike A B (k + 1) := by
  refine ⟨?_, (List.getElem?_eq_some_iff.1 hb).1⟩
  rw [List.take_add_one, List.take_add_one, ha, hb, h.1]

theorem alike_short {A B : Pairs} {k : Nat} {x : Bytes × Bytes} (ha : A[k]? = some x) (hb : B.length ≤ k) : A ≠ B := by
  rintro rfl
  have := (List.getElem?_eq_some_iff.1 ha).1
  omega

theorem alike_other {A B : Pairs} {k : Nat} {x y : Bytes × Bytes} (ha : A[k]? = some x) (hb : B[k]? = some y) (hne : x ≠ y) : A ≠ B := by
  rintro rfl
  rw [ha] at hb
  exact hne (Option.some.inj hb)

theorem alike_end {A B : Pairs} (h : Alike A B A.length) : decide (A = B) = decide (A.length = B.length) := by
  by_cases q : A.length = B.length
  · have e : A = B := by
      have := h.1
      rwa [List.take_length, q, List.take_length] at this
    rw [decide_eq_true e, decide_eq_true q]
  · have e : A ≠ B := fun e => q (by rw [e])
    rw [decide_eq_false e, decide_eq_false q]

end Go.Proofs.YtgffifleflkjoaaGreat.Em

namespace Go.Proofs.YtgffifleflkjoaaGreat
open Go.RowKit

abbrev w32 (n : Nat) : Value := .int .u32 n

theorem step_bits (n : Nat) (h : n < 4294967296) : bits .xor .u32 ((n : Int) / 2) (IntKind.u32.wrap (bits .and .u32 (n : Int) 1 * 2197175160)) = ((Cm.step n : Nat) : Int) := by
  have e1 : bits .and .u32 (n : Int) 1 = ((n % 2 : Nat) : Int) := by
    rw [show (1 : Int) = ((1 : Nat) : Int) from rfl, u32_and_nat n 1 h (by decide), nat_mask1]
  have e2 : IntKind.u32.wrap (((n % 2 : Nat) : Int) * 2197175160) = (((if n % 2 = 1 then Cm.poly else 0) : Nat) : Int) := by
    rw [IntKind.wrap_u32']
    rcases Nat.mod_two_eq_zero_or_one n with h | h
    · simp [h]
    · simp [h, Cm.poly]
  rw [e1, e2, show (n : Int) / 2 = ((n / 2 : Nat) : Int) by omega, u32_xor_nat (n / 2) _ (by omega) (by split <;> decide)]
  rfl

set_option maxRecDepth 100000 in
set_option maxHeartbeats 1000000 in
theorem crcStep_c (g o n : Nat) (c : Array Value) (t : TypeId) (w : World) (hg : w.heap[g]? = some (.cells c t (0, 0))) (ho : c[o]? = some (w32 n)) (hn : n < 4294967296) :
    Calls Tryz.prog 219 #[.pointer (some ⟨g, o, none⟩)] w fun e w' => e = .returned (.tuple #[]) ∧ (w.setCell ⟨g, o, none⟩ (w32 (Cm.step n))).drew = w' := by
  have k : w.cell? ⟨g, o, none⟩ = some (.int .u32 n) := (cell_of_row _ _ _ _ _ _ hg).trans ho
  have z : w.frozen? ⟨g, o, none⟩ = false := by simp [World.frozen?, hg]
  have h0 : (0 : Int) ≤ (n : Int) := by omega
  have h1 : (n : Int) < 4294967296 := by omega
  go_enter Tryz.func219, Tryz.ntmps219
  go_wp2
  refine wp_region_tail 15 (by kernel_rfl) (by kernel_rfl) ?_
  simp only [List.take_succ_cons, List.take_zero, List.drop_succ_cons, List.drop_zero]
  repeat still_step
  refine wpStill_nil ?_
  refine wpList_plain rfl fun K hK => ?_
  go_simp
  refine hK _ _ ?_
  simp only [wpList]
  rw [step_bits n hn]
  go_end0
  exact ⟨rfl, rfl⟩

theorem infoRun : (Tryz.prog.info? 291).map (·.size) = some 257 := by kernel_rfl

theorem steps_succ : ∀ (k n : Nat), Cm.steps (k + 1) n = Cm.step (Cm.steps k n)
  | 0, _ => rfl
  | k + 1, n => by rw [Cm.steps, steps_succ k]; rfl

/-- A cell of a block is another. -/
theorem setCell_row {w : World} {g o : Nat} {c : Array Value} {t : TypeId} (v : Value) (h : w.heap[g]? = some (.cells c t (0, 0))) :
    (w.setCell ⟨g, o, none⟩ v).drew.heap[g]? = some (.cells (c.setIfInBounds o v) t (0, 0)) ∧ Moves (fun k => k = g) w (w.setCell ⟨g, o, none⟩ v).drew :=
  ⟨heap_setCell_same w g o c t v h, rfl, rfl, rfl, by simp, fun k _ hn => heap_setCell_other w _ k v hn⟩

abbrev tRun : Nat := 291

set_option maxRecDepth 100000 in
set_option maxHeartbeats 4000000 in
theorem crcTab_c (i : Nat) (w : World) (hi : i < 256) :
    Calls Tryz.prog 218 #[.int .i64 i] w fun e w' => e = .returned (w32 (Cm.tab i)) ∧ Below w.heap.size w w' := by
  have h0 : (0 : Int) ≤ (i : Int) := by omega
  have h1 : (i : Int) < 256 := by omega
  have ones : (Tryz.zeroCells291.setIfInBounds 0 (.int .u32 (i : Int))).all (·.oneCell') = true := by kernel_rfl
  have size : (Tryz.zeroCells291.setIfInBounds 0 (.int .u32 (i : Int))).size = 257 := by rw [Array.size_setIfInBounds]; kernel_rfl
  obtain ⟨C0, hC0⟩ : ∃ C0, Tryz.zeroCells291.setIfInBounds 0 (.int .u32 (i : Int)) = C0 := ⟨_, rfl⟩
  have HC := Lib.hid hC0
  have c00 : C0 = C0.setIfInBounds 0 (w32 (Cm.steps 0 i)) := by
    rw [← hC0, Array.setIfInBounds_setIfInBounds]; rfl
  rw [hC0] at ones size
  have H := Lib.hid (And.intro ones (And.intro size c00))
  clear ones size c00 hC0
  go_enter Tryz.func218, Tryz.ntmps218
  go_wp2_with (refine wpList_store_abs rfl tRun (.tmp 3) (.tmp 7) rfl w.heap.size C0 rfl (by rw [← HC.out]; rfl) tRun Tryz.zeroCells291 (heap_alloc_last w _) (by rw [infoRun, H.out.2.1]) (by rw [H.out.2.1]; kernel_rfl) H.out.1 ?_; intro W1 HW1 HM1 HS1)
  have hb1 : Below w.heap.size w W1 := Moves.new ((Below.refl _ _).alloc (Nat.le_refl _) _) HM1 (Nat.le_refl _)
  have H1 := Lib.hid (And.intro hb1 HW1.out)
  clear hb1 HW1 HM1 HS1
  go_loopw [8] (fun s wr => ∃ k : Nat, k ≤ 8 ∧ s = .int .i64 (k : Int) ∧ wr.heap[w.heap.size]? = some (.cells (C0.setIfInBounds 0 (w32 (Cm.steps k i))) tRun (0, 0)) ∧ Below w.heap.size w wr) (fun s _ => 8 - (intOf s).toNat)
  case atStart => exact ⟨0, by omega, rfl, by rw [← H.out.2.2]; exact H1.out.2, H1.out.1⟩
  case round =>
    obtain ⟨k, hk, rfl, hrow, hb⟩ := hrel
    have hlt32 : Cm.steps k i < 4294967296 := Cm.steps_lt k (by omega)
    have hcell : (C0.setIfInBounds 0 (w32 (Cm.steps k i)))[0]? = some (w32 (Cm.steps k i)) := by
      rw [Array.getElem?_setIfInBounds_self_of_lt (by rw [H.out.2.1]; decide)]
    by_cases hlt : k < 8
    · have ST := Lib.hid (crcStep_c w.heap.size 0 _ _ _ wr hrow hcell hlt32)
      have H2 := Lib.hid (And.intro hrow hb)
      clear hrow hb hcell
      go_wp2_with (go_at_call 219; refine ST.out.mono ?_; rintro e w' ⟨rfl, rfl⟩)
      go_roundw
      case rel =>
        obtain ⟨r1, m1⟩ := setCell_row (o := 0) (w32 (Cm.step (Cm.steps k i))) H2.out.1
        refine ⟨k + 1, by omega, by go_num, ?_, Moves.new H2.out.2 m1 (Nat.le_refl _)⟩
        rw [r1, Array.setIfInBounds_setIfInBounds, steps_succ]
      case measure => simp [intOf]; omega
    · obtain rfl : k = 8 := by omega
      have kc : wr.cell? ⟨w.heap.size, 0, none⟩ = some (.int .u32 (Cm.steps 8 i : Nat)) := (cell_of_row _ _ _ _ _ _ hrow).trans hcell
      have HB := Lib.hid hb
      clear hrow hb hcell
      go_wp2
      go_ret
      exact ⟨rfl, HB.out⟩

end Go.Proofs.YtgffifleflkjoaaGreat

namespace Go.Proofs.YtgffifleflkjoaaGreat
open Go.RowKit

abbrev tTab : Nat := 288
theorem infoTab : (Tryz.prog.info? tTab).map (·.size) = some 256 := by kernel_rfl

/-- The table up to its k-th word. -/
def tabC (k : Nat) : Array Value := ((List.range 256).map fun j => if j < k then w32 (Cm.tab j) else w32 0).toArray

theorem tabC_size (k : Nat) : (tabC k).size = 256 := by simp [tabC]
theorem tabC_zero : tabC 0 = Tryz.zeroCells288 := by kernel_rfl
theorem tabC_set (k : Nat) (h : k < 256) : (tabC k).setIfInBounds k (w32 (Cm.tab k)) = tabC (k + 1) := by
  apply Array.ext_getElem?
  intro j
  rw [Array.getElem?_setIfInBounds]
  by_cases hj : k = j
  · subst hj
    simp [tabC, h]
  · rw [if_neg hj]
    by_cases hl : j < 256
    · simp only [tabC, List.getElem?_toArray, List.getElem?_map, List.getElem?_range hl, Option.map_some]
      congr 1
      by_cases h1 : j < k
      · rw [if_pos h1, if_pos (by omega)]
      · rw [if_neg h1, if_neg (by omega)]
    · rw [Array.getElem?_eq_none (by rw [tabC_size]; omega), Array.getElem?_eq_none (by rw [tabC_size]; omega)]
theorem tabC_at (k : Nat) (h : k < 256) : (tabC k)[k]? = some (w32 0) := by
  simp only [tabC, List.getElem?_toArray, List.getElem?_map, List.getElem?_range h, Option.map_some]
  rw [if_neg (by omega)]
theorem tabC_one (k : Nat) : (tabC k).all (·.oneCell') = true := by
  rw [Array.all_eq_true_iff_forall_mem]
  intro x hx
  simp only [tabC, List.mem_toArray, List.mem_map] at hx
  obtain ⟨j, _, rfl⟩ := hx
  split <;> rfl

set_option maxRecDepth 100000 in
set_option maxHeartbeats 4000000 in
theorem crcTable_c (w : World) : Calls Tryz.prog 213 #[] w fun e w' => e = .returned (.agg (tabC 256)) ∧ Below w.heap.size w w' := by
  have hb0 : Below w.heap.size w (w.alloc (.cells (tabC 0) tTab)) := (Below.refl _ _).alloc (Nat.le_refl _) _
  have r0 : (w.alloc (.cells (tabC 0) tTab)).heap[w.heap.size]? = some (.cells (tabC 0) tTab (0, 0)) := heap_alloc_last w _
  rw [tabC_zero] at hb0 r0
  obtain ⟨W0, hW0⟩ : ∃ W0, w.alloc (.cells Tryz.zeroCells288 288) = W0 := ⟨_, rfl⟩
  rw [hW0] at hb0 r0
  rw [← tabC_zero] at r0
  have H0 := Lib.hid (And.intro hb0 r0)
  clear hb0 r0
  go_enter Tryz.func213, Tryz.ntmps213
  go_upto_region 1 with fail
  clear hW0
  go_wp2
  go_loopw [2, 3] (fun _ s wr => ∃ k : Nat, k ≤ 256 ∧ s = .int .i64 (k : Int) ∧ wr.heap[w.heap.size]? = some (.cells (tabC k) tTab (0, 0)) ∧ Below w.heap.size w wr) (fun _ s _ => 256 - (intOf s).toNat)
  case atStart => exact ⟨0, by omega, rfl, H0.out.2, H0.out.1⟩
  case round =>
    obtain ⟨k, hk, rfl, hrow, hb⟩ := hrel
    by_cases hlt : k < 256
    · have h0 : (0 : Int) ≤ (k : Int) := by omega
      have h1 : (k : Int) < 256 := by omega
      have CT := Lib.hid (crcTab_c k wr hlt)
      have HR := Lib.hid (And.intro hrow hb)
      clear hrow hb
      go_wp2_with fail
      refine CT.out.mono ?_
      rintro e w2 ⟨rfl, hb2⟩
      have hr2 := (hb2.block _ (lt_of_row HR.out.1)).trans HR.out.1
      have kc : w2.cell? ⟨w.heap.size, k, none⟩ = some (w32 0) := (cell_of_row _ _ _ _ _ _ hr2).trans (tabC_at k hlt)
      have zc : w2.frozen? ⟨w.heap.size, k, none⟩ = false := by simp [World.frozen?, hr2]
      have H2 := Lib.hid (And.intro hb2 hr2)
      clear hb2 hr2
      go_wp2
      go_roundw
      case rel =>
        have m : Moves (fun j => j = w.heap.size) w2 (w2.setCell ⟨w.heap.size, k, none⟩ (w32 (Cm.tab k))) := ⟨rfl, rfl, rfl, by simp, fun j _ hn => heap_setCell_other w2 _ j _ hn⟩
        refine ⟨k + 1, by omega, by go_num, ?_, Moves.new (HR.out.2.trans (H2.out.1.mono HR.out.2.size)) m (Nat.le_refl _)⟩
        rw [← tabC_set k hlt]
        exact heap_setCell_same w2 w.heap.size k (tabC k) tTab (w32 (Cm.tab k)) H2.out.2
      case measure => simp [intOf]; omega
    · obtain rfl : k = 256 := by omega
      have HR := Lib.hid (And.intro hrow hb)
      clear hrow hb
      go_wp2_with (first
        | (refine wpList_load_row rfl tTab (.tmp 0) rfl w.heap.size rfl tTab (tabC 256) (0, 0) _ HR.out.1 Tryz.underlying288 rfl infoTab ?_)
        | (refine wpList_store_abs rfl tTab (.tmp 0) (.tmp 12) rfl w.heap.size (tabC 256) rfl rfl tTab (tabC 256) HR.out.1 (by rw [infoTab, tabC_size]) rfl (tabC_one _) ?_; intro W1 HW1 HM1 HS1))
      refine bodyPost_ret (results_cell_row rfl _ _ w.heap.size tTab (tabC 256) (0, 0) _ rfl HW1.out Tryz.underlying288 rfl infoTab) rfl ⟨rfl, Moves.new HR.out.2 HM1 (Nat.le_refl _)⟩

end Go.Proofs.YtgffifleflkjoaaGreat

namespace Go.Proofs.YtgffifleflkjoaaGreat
open Go.RowKit

/-- A sum under way: its word, and the table. -/
def runC (r : Nat) : Array Value := (w32 r :: (List.range 256).map fun j => w32 (Cm.tab j)).toArray
theorem runC_size (r : Nat) : (runC r).size = 257 := by simp [runC]
theorem runC_set (r s : Nat) : (runC r).setIfInBounds 0 (w32 s) = runC s := by simp [runC]
theorem runC_tab (r j : Nat) (h : j < 256) : (runC r)[1 + j]? = some (w32 (Cm.tab j)) := by
  rw [Nat.add_comm]
  simp [runC, h]
theorem runC_one (r : Nat) : (runC r).all (·.oneCell') = true := by
  rw [Array.all_eq_true_iff_forall_mem]
  intro x hx
  simp only [runC, List.mem_toArray, List.mem_cons, List.mem_map] at hx
  rcases hx with rfl | ⟨j, _, rfl⟩ <;> rfl

theorem BytesAt.byte {w : World} {F : Nat → Prop} {a : Option Addr} {n c : Nat} {l : List UInt8} (x : BytesAt w.heap F (.slice a n c) l) {k : Nat} {u : UInt8} (h : l[k]? = some u) :
    ∃ b o, a = some ⟨b, o, none⟩ ∧ F b ∧ b < w.heap.size ∧ w.cell? ⟨b, o + k, none⟩ = some (bval u) := by
  rcases x with ⟨_, rfl⟩ | ⟨b, o, cap, c', t, fr, h1, _, _, g2, g3, g4⟩
  · simp at h
  · exact ⟨b, o, (Value.slice.inj h1).1, g2, lt_of_row g3, (cell_of_row _ _ _ _ _ _ g3).trans (g4 k u h)⟩

theorem idx_bits (R c : Nat) (hc : c < 256) : bits .xor .u8 (IntKind.u8.wrap (R : Int)) (c : Int) = (((R ^^^ c) % 256 : Nat) : Int) := by
  rw [IntKind.wrap_u8', show (R : Int) % 256 = ((R % 256 : Nat) : Int) by omega, u8_xor_nat _ _ (by omega) hc]
  have : (R ^^^ c) % 2 ^ 8 = (R % 2 ^ 8) ^^^ (c % 2 ^ 8) := Nat.xor_mod_two_pow
  rw [show (256 : Nat) = 2 ^ 8 from rfl, this, Nat.mod_eq_of_lt (a := c) (by simpa using hc)]
theorem word_bits (R T : Nat) (hR : R < 4294967296) (hT : T < 4294967296) : bits .xor .u32 ((R : Int) / 256) (T : Int) = ((R / 256 ^^^ T : Nat) : Int) := by
  rw [show (R : Int) / 256 = ((R / 256 : Nat) : Int) by omega, u32_xor_nat _ _ (by omega) hT]

set_option maxRecDepth 100000 in
set_option maxHeartbeats 4000000 in
theorem crcTake_c (g r : Nat) (w : World) {v : Value} {l : List UInt8} (hr : r < 4294967296) (hg : w.heap[g]? = some (.cells (runC r) tRun (0, 0))) (hv : BytesAt w.heap (fun k => k ≠ g) v l) (hl : l.length ≤ 9223372036854775807) :
    Calls Tryz.prog 214 #[.pointer (some ⟨g, 0, none⟩), v] w fun e w' => e = .returned (.tuple #[]) ∧ w'.heap[g]? = some (.cells (runC (Cm.regOn r l)) tRun (0, 0)) ∧ Moves (fun k => k = g) w w' ∧ w'.heap.size = w.heap.size := by
  obtain ⟨a, cap, rfl⟩ := hv.slice
  have HV := Lib.hid hv
  generalize hn : l.length = n at *
  have H := Lib.hid (And.intro hg (And.intro hr hn))
  clear hv hg hr hn
  go_enter Tryz.func214, Tryz.ntmps214
  go_wp2
  go_loopw [5, 8] (fun _ s wr => ∃ k : Nat, k ≤ n ∧ s = .int .i64 (k : Int) ∧ wr.heap[g]? = some (.cells (runC (Cm.regOn r (l.take k))) tRun (0, 0)) ∧ Moves (fun j => j = g) w wr ∧ wr.heap.size = w.heap.size) (fun _ s _ => n - (intOf s).toNat)
  case atStart => exact ⟨0, Nat.zero_le _, rfl, H.out.1, Moves.refl _ _, rfl⟩
  case round =>
    obtain ⟨k, hk, rfl, hrow, hm, hz⟩ := hrel
    by_cases hlt : k < n
    · have h0 : (0 : Int) ≤ (k : Int) := by omega
      have h1 : (k : Int) < (n : Int) := by omega
      obtain ⟨u, hu⟩ : ∃ u, l[k]? = some u := ⟨_, List.getElem?_eq_getElem (by rw [H.out.2.2]; exact hlt)⟩
      obtain ⟨b, o, rfl, hbg, hbl, hc⟩ := HV.out.byte hu
      have hcell : wr.cell? ⟨b, o + k, none⟩ = some (.int .u8 u.toNat) := by
        rw [World.cell?_of_block (w := w) (a := ⟨b, o + k, none⟩) (hm.block b hbl hbg)]; exact hc
      have hreg : Cm.regOn r (l.take k) < 4294967296 := Cm.regOn_lt _ H.out.2.1
      have hnext : Cm.regOn r (l.take (k + 1)) = Cm.byteOn (Cm.regOn r (l.take k)) u.toNat := by
        rw [List.take_add_one, hu, Cm.regOn_append]; rfl
      generalize Cm.regOn r (l.take k) = R at *
      have k0 : wr.cell? ⟨g, 0, none⟩ = some (.int .u32 R) := row_cell hrow rfl
      have z0 : wr.frozen? ⟨g, 0, none⟩ = false := row_free hrow 0
      have u0 : (0 : Int) ≤ (u.toNat : Int) := by omega
      have u1 : (u.toNat : Int) < 256 := by have := u.toNat_lt; omega
      have r0 : (0 : Int) ≤ (R : Int) := by omega
      have r1 : (R : Int) < 4294967296 := by omega
      have H2 := Lib.hid (And.intro hrow (And.intro hm (And.intro hz hnext)))
      clear hrow hm hz hnext hc hu
      have hx := idx_bits R u.toNat u.toNat_lt
      have hj : (R ^^^ u.toNat) % 256 < 256 := Nat.mod_lt _ (by decide)
      have hw := word_bits R (Cm.tab ((R ^^^ u.toNat) % 256)) hreg (Cm.steps_lt 8 (by omega))
      have kj : wr.cell? ⟨g, 1 + (R ^^^ u.toNat) % 256, none⟩ = some (w32 (Cm.tab ((R ^^^ u.toNat) % 256))) := row_cell H2.out.1 (runC_tab R _ hj)
      obtain ⟨N, hN⟩ : ∃ N, R / 256 ^^^ Cm.tab ((R ^^^ u.toNat) % 256) = N := ⟨_, rfl⟩
      have HN := Lib.hid (show Cm.byteOn R u.toNat = N from hN)
      rw [hN] at hw
      clear hN
      generalize Cm.tab ((R ^^^ u.toNat) % 256) = T at *
      generalize (R ^^^ u.toNat) % 256 = j at *
      have j0 : (0 : Int) ≤ (j : Int) := by omega
      have j1 : (j : Int) < 256 := by omega
      go_upto_region 3 with fail
      refine wp_region_tail 24 (by kernel_rfl) (by kernel_rfl) ?_
      simp only [List.take_succ_cons, List.take_zero, List.drop_succ_cons, List.drop_zero]
      repeat still_step
      refine wpStill_nil ?_
      refine wpList_plain rfl fun K hK => ?_
      go_simp
      refine hK _ _ ?_
      simp only [wpList]
      go_wp2
      go_roundw
      case rel =>
        obtain ⟨r1, m1⟩ := setCell_row (o := 0) (w32 N) H2.out.1
        refine ⟨k + 1, by omega, by go_num, ?_, H2.out.2.1.trans m1 (fun _ _ h => h), ?_⟩
        · rw [H2.out.2.2.2, HN.out, ← runC_set R N]; exact r1
        · simpa using H2.out.2.2.1
      case measure => simp [intOf]; omega
    · obtain rfl : k = n := by omega
      have H2 := Lib.hid (And.intro hrow (And.intro hm hz))
      clear hrow hm hz
      go_wp2
      go_end0
      refine ⟨rfl, ?_, H2.out.2.1, H2.out.2.2⟩
      have := H2.out.1
      rwa [List.take_of_length_le (by rw [H.out.2.2]; omega)] at this

end Go.Proofs.YtgffifleflkjoaaGreat

namespace Go.Proofs.YtgffifleflkjoaaGreat
open Go.RowKit

/-- One part, in a slice of its own. -/
def OnePart (w : World) (F : Nat → Prop) (pv : Value) (l : List UInt8) : Prop := ∃ b v, pv = .slice (some ⟨b, 0, none⟩) 1 1 ∧ w.cell? ⟨b, 0, none⟩ = some v ∧ BytesAt w.heap F v l

theorem OnePart.below {w w' : World} {F : Nat → Prop} {pv : Value} {l : List UInt8} (h : OnePart w F pv l) (hb : Below w.heap.size w w') : OnePart w' F pv l := by
  obtain ⟨b, v, h1, h2, h3⟩ := h
  exact ⟨b, v, h1, (hb.cell (p := ⟨b, 0, none⟩) (block_lt_of_cell h2)).trans h2, h3.below hb⟩

theorem wpList_build_to {P : Program} {ops : Array Oper} {rest : List Oper} {o : Oper} {a : Act} {w : World} {Q : Exit → Act → World → Prop} (hg : o.guard = none) (t : TypeId) (parts : Array (Nat × Operand)) (ho : o.op = .build t parts) (cells : Array Value)
    (hb : P.built t (parts.map fun (i, x) => (i, a.eval x)).toList = some cells) (h : wpList P ops Q rest (a.put o.dst (.agg cells)) w) : wpList P ops Q (o :: rest) a w :=
  wpList_build hg t parts ho (by rw [hb]; rfl) (by rw [hb]; exact h)

set_option maxRecDepth 100000 in
theorem built_run (r : Nat) : Tryz.prog.built tRun [(0, .agg #[w32 r]), (1, .agg (tabC 256))] = some (runC r) := by kernel_rfl

theorem not_bits (n : Nat) (h : n < 4294967296) : bits .xor .u32 IntKind.u32.max (n : Int) = ((Cm.top - n : Nat) : Int) := by
  rw [show IntKind.u32.max = ((4294967295 : Nat) : Int) from by decide +kernel, u32_xor_nat _ n (by decide) h, Cm.top_sub h]
  rfl

set_option maxRecDepth 100000 in
set_option maxHeartbeats 1000000 in
theorem crcMore_c {w : World} {F : Nat → Prop} {pv : Value} {l : List UInt8} (h : OnePart w F pv l) (hl : l.length ≤ 9223372036854775807) :
    Calls Tryz.prog 196 #[.int .u32 0, pv] w fun e w' => e = .returned (w32 (Cm.sum l)) ∧ Below w.heap.size w w' := by
  obtain ⟨b, v, rfl, hc, hv⟩ := h
  have H := Lib.hid (And.intro hc hv)
  clear hc hv
  obtain ⟨T, hT, hT2⟩ : ∃ T : Nat, bits .xor .u32 IntKind.u32.max 0 = (T : Int) ∧ T = Cm.top := ⟨Cm.top, by decide +kernel, rfl⟩
  have HT := Lib.hid hT2
  clear hT2
  go_enter Tryz.func196, Tryz.ntmps196
  go_wp2_with fail
  refine (crcTable_c w).mono ?_
  rintro e w1 ⟨rfl, hb1⟩
  go_wp2_with (first
    | (refine wpList_build_to rfl tRun #[(0, .tmp 10), (1, .tmp 11)] rfl (runC T) (by simp only [List.map_toArray, List.map_cons, List.map_nil, Act.eval]; exact built_run T) ?_)
    | (refine wpList_store_abs rfl tRun (.tmp 5) (.tmp 12) rfl w1.heap.size (runC T) rfl rfl tRun Tryz.zeroCells291 (heap_alloc_last w1 _) (by rw [infoRun, runC_size]) (by rw [runC_size]; kernel_rfl) (runC_one _) ?_; intro W2 HW2 HM2 HS2))
  have hb2 : Below w.heap.size w W2 := hb1.trans ((Moves.new ((Below.refl _ _).alloc (Nat.le_refl _) _) HM2 (Nat.le_refl _) : Below w1.heap.size w1 W2).mono hb1.size)
  have z1 := hb1.size
  have kb : W2.cell? ⟨b, 0, none⟩ = some v := (hb2.cell (p := ⟨b, 0, none⟩) (block_lt_of_cell H.out.1)).trans H.out.1
  have hvb : BytesAt W2.heap (fun k => k ≠ w1.heap.size) v l := H.out.2.keeps (fun k _ hl => hb2.block k hl) (fun k _ hl => by omega)
  have TK := Lib.hid (crcTake_c w1.heap.size T W2 (by rw [HT.out]; decide) HW2.out hvb hl)
  have H2 := Lib.hid (And.intro hb2 HW2.out)
  clear hb1 hb2 HW2 HM2 HS2 hvb hT
  generalize w1.heap.size = g at *
  go_loopw [7, 15] (fun _ s wr => ∃ k : Nat, k ≤ 1 ∧ s = .int .i64 (k : Int) ∧ (k = 0 → wr = W2) ∧ wr.heap[g]? = some (.cells (runC (if k = 0 then T else Cm.regOn T l)) tRun (0, 0)) ∧ Moves (fun j => j = g) W2 wr) (fun _ s _ => 1 - (intOf s).toNat)
  case atStart => exact ⟨0, by omega, rfl, fun _ => rfl, H2.out.2, Moves.refl _ _⟩
  case round =>
    obtain ⟨k, hk, rfl, he, hrow, hm⟩ := hrel
    by_cases hlt : k < 1
    · obtain rfl : k = 0 := by omega
      obtain rfl := he rfl
      clear he hm hrow
      go_wp2_with (go_at_call 214; refine TK.out.mono ?_; rintro e w' ⟨rfl, hr1, hm1, hz1⟩)
      go_roundw
      case rel => exact ⟨1, by omega, by go_num, fun h => (by cases h), hr1, hm1⟩
      case measure => simp [intOf]
    · obtain rfl : k = 1 := by omega
      rw [if_neg (by decide)] at hrow
      have k0 : wr.cell? ⟨g, 0, none⟩ = some (w32 (Cm.regOn T l)) := row_cell hrow rfl
      have HF := Lib.hid (And.intro hm z1)
      clear he hm hrow
      have hR : Cm.regOn T l < 4294967296 := Cm.regOn_lt l (by rw [HT.out]; decide)
      have hN := not_bits (Cm.regOn T l) hR
      have HS : Hid (Cm.top - Cm.regOn T l = Cm.sum l) := Lib.hid (by rw [HT.out]; rfl)
      generalize Cm.regOn T l = R at *
      have HN := Lib.hid hN
      clear hN
      go_wp2
      go_ret
      exact ⟨by rw [HN.out, HS.out]; rfl, Moves.new H2.out.1 HF.out.1 HF.out.2⟩

theorem crcSum_c {w : World} {F : Nat → Prop} {pv : Value} {l : List UInt8} (h : OnePart w F pv l) (hl : l.length ≤ 9223372036854775807) :
    Calls Tryz.prog 172 #[pv] w fun e w' => e = .returned (w32 (Cm.sum l)) ∧ Below w.heap.size w w' := by
  have MC := Lib.hid (crcMore_c h hl)
  clear h hl
  go_enter Tryz.func172, Tryz.ntmps172
  go_wp2_with (go_at_call 196; refine MC.out.mono ?_; rintro e w1 ⟨rfl, hb1⟩)
  go_ret
  exact ⟨rfl, hb1⟩

end Go.Proofs.YtgffifleflkjoaaGreat

/-
  evlog: a batch is committed.
  A scope out of which the run jumps forward.
  evlog: Commit.
  evlog: what gives up; what tells whether something goes.
  wire: the first number of bytes.
-/
import Derived.Test.YtgffifleflkjoaaGreatG01
import Derived.Test.YtgffifleflkjoaaGreatG14
import Derived.Test.YtgffifleflkjoaaGreatG19
import Derived.ScopeJumps
import Derived.WalkMore
import Derived.Defers
import Derived.Recover
import Derived.Laws.Pointers

namespace Go.Proofs.YtgffifleflkjoaaGreat
open Go.RowKit Dm

theorem next_waits {r : D × Int} {f : D → D × Int} {n k : Nat} (h : r.1.waits.length ≤ n) (hf : ∀ d, (f d).1.waits.length ≤ d.waits.length + k) : (Em.next r f).1.waits.length ≤ n + k := by
  unfold Em.next
  split
  · have := hf r.1; omega
  · omega
theorem wrote_waits (d : D) (t : Nat) (b : List UInt8) : (Em.wrote d t b).1.waits.length ≤ d.waits.length + 2 := next_waits (n := d.waits.length + 1) (k := 1) (append_waits d t b) sync_waits
theorem rewrote_waits (d : D) (t : Nat) (b : List UInt8) : (Em.rewrote d t b).1.waits.length ≤ d.waits.length + 3 :=
  next_waits (n := d.waits.length + 2) (k := 1) (next_waits (n := d.waits.length + 1) (k := 1) (emptied_waits d t) (fun d => append_waits d t b)) sync_waits
theorem put_waits (e : Em.E) (D : Em.Rows) (b : List UInt8) : (e.put D b).1.d.waits.length ≤ e.d.waits.length + 2 := by
  unfold Em.E.put
  split
  · simp
  · exact wrote_waits _ _ _
theorem fold_waits (e : Em.E) (D : Em.Rows) : (e.fold D).1.d.waits.length ≤ e.d.waits.length + 3 := by
  by_cases h : 2147483647 ≤ e.gen
  · rw [Em.fold_full h]; simp
  · rw [Em.fold_live h]
    have := rewrote_waits e.d (1 - e.tp) (Em.folded (e.gen + 1) D)
    split <;> exact this
theorem commit_waits (e : Em.E) (l : List Em.Change) : (e.commit l).1.d.waits.length ≤ e.d.waits.length + 5 := by
  unfold Em.E.commit
  split
  · simp
  · split
    · simp
    · show (e.step (Em.behind e.rows l) (Em.batched l)).1.d.waits.length ≤ _
      unfold Em.E.step
      have h1 := put_waits e (Em.behind e.rows l) (Em.batched l)
      have h2 := fold_waits (e.put (Em.behind e.rows l) (Em.batched l)).1 (Em.behind e.rows l)
      split <;> omega
theorem begun_waits (d : D) : (Em.begun d).1.d.waits.length ≤ d.waits.length + 3 := rewrote_waits d 0 _

theorem log_below {w w' : World} {pl pd md : Nat} {e : Em.E} {F : Nat → Prop} (x : LogAt w pl pd md e F) (hb : Below w.heap.size w w') : LogAt w' pl pd md e (plus F w w') := by
  obtain ⟨m, row, rows, hne⟩ := x.row
  refine ⟨x.good, x.disk.plus hb, ⟨m, (hb.block pl (lt_of_row row)).trans row, rows_below rows hb rows.lt, hne⟩, x.ne.1, x.ne.2.1, ?_⟩
  intro h
  rcases h with h | h
  · exact x.ne.2.2 h
  · have := lt_of_row row
    omega

theorem log_left_below {w w' : World} {pl pd md : Nat} {e : Em.E} {F : Nat → Prop} (x : LogAt w pl pd md e F) (c : Int) (hb : Below w.heap.size w w') : LogLeft w pl pd md F (e, c) (.returned (.int .i64 c)) w' :=
  ⟨rfl, Moves.of_below hb, log_below x hb⟩

theorem log_wide {w W w' : World} {pl pd md : Nat} {e e' : Em.E} {F : Nat → Prop} (x : LogAt w pl pd md e F) (hm : Moves (PLM pl pd md) w W) (hm' : Moves (PLM pl pd md) W w') (y : LogAt w' pl pd md e' (plus (plus F w W) W w')) : LogAt w' pl pd md e' (plus F w w') := by
  obtain ⟨l1, l2, l3, l4, l5⟩ := x.disk.lt
  obtain ⟨m, row, rows, hne⟩ := x.row
  have ll := lt_of_row row
  have s1 := hm.size
  have s2 := hm'.size
  refine ⟨y.good, y.disk.weak (fun k hk hl => ?_) ?_ ?_, y.row, y.ne.1, y.ne.2.1, ?_⟩
  · rcases hk with (hk | hk) | hk
    · exact Or.inl hk
    · exact Or.inr ⟨hk.1, hl⟩
    · exact Or.inr ⟨by omega, hl⟩
  all_goals
    intro h
    rcases h with h | h
    · first | exact l4 h | exact l5 h | exact x.ne.2.2 h
    · omega

theorem log_then {w W w' : World} {pl pd md : Nat} {e : Em.E} {F : Nat → Prop} {r : Em.E × Int} {en : Ending} (x : LogAt w pl pd md e F) (hm : Moves (PLM pl pd md) w W) (h : LogLeft W pl pd md (plus F w W) r en w') : LogLeft w pl pd md F r en w' :=
  ⟨h.1, hm.trans h.2.1 (fun _ _ h => h), log_wide x hm h.2.1 h.2.2⟩

/-- A batch is appended. -/
theorem lapp_c {w : World} {pl pd md m n : Nat} {e : Em.E} {F : Nat → Prop} {b : List UInt8} {v : Value} {D : Em.Rows}
    (BC : Calls Tryz.prog 79 #[v] w (GivesB w b)) (x : LogAt w pl pd md e F) (hgone : e.gone = false) (hw : e.d.waits.length ≤ 900000000) (hb : b.length ≤ 8205) (hm : RowsIn w m n D) (n1 : m ≠ pd) (n2 : m ≠ md) (n3 : m ≠ pl) (hg : (e.put D b).1.good) :
    Calls Tryz.prog 38 #[.pointer (some ⟨pl, 0, none⟩), .map (some m), v] w (LogLeft w pl pd md F (e.put D b)) := by
  by_cases h : 32 ≤ e.batches ∨ b.length = 0 ∨ e.d.room / 2 < e.fin + b.length
  · rw [Em.put_full h]
    obtain ⟨mr, row, rows, hne⟩ := x.row
    have R0 := x.disk.ok.room0
    have R1 := x.disk.ok.room1
    have hB := x.good.batches
    have hF := x.good.fin
    rw [hgone] at row
    obtain ⟨room, hroom⟩ : ∃ n : Nat, e.d.room = (n : Int) := ⟨e.d.room.toNat, by omega⟩
    refine (lapp_full (room := room) BC row x.disk hroom (by omega) (by omega) (by omega) (by omega) (by rw [hroom] at h; omega)).mono ?_
    rintro en w' ⟨rfl, hb⟩
    exact log_left_below x 280 hb
  · exact lapp_live BC x hw hb hm n1 n2 n3 hg h

/-- The log is folded. -/
theorem fold_c {w : World} {pl pd md m n : Nat} {e : Em.E} {F : Nat → Prop} {D : Em.Rows}
    (x : LogAt w pl pd md e F) (hw : e.d.waits.length ≤ 900000000) (hm : RowsIn w m n D) (hD : Em.RowsOk D) (hs : Maps.size D ≤ 256) (n1 : m ≠ pd) (n2 : m ≠ md) (n3 : m ≠ pl) :
    Calls Tryz.prog 39 #[.pointer (some ⟨pl, 0, none⟩), .map (some m)] w (LogLeft w pl pd md F (e.fold D)) := by
  by_cases h : 2147483647 ≤ e.gen
  · rw [Em.fold_full h]
    obtain ⟨mr, row, rows, hne⟩ := x.row
    refine (fold_full_c row h).mono ?_
    rintro en w' ⟨rfl, rfl⟩
    exact log_left_below x 280 (Below.refl _ _)
  · exact fold_live_c x hw hm hD hs n1 n2 n3 h

theorem lnone_nil (w : World) : Calls Tryz.prog 36 #[.pointer none] w fun e w' => e = .returned (.bool true) ∧ w = w' := by
  go_enter Tryz.func36, Tryz.ntmps36
  go_wp2
  go_ret
  exact ⟨rfl, rfl⟩

theorem lnone_at {w : World} {pl : Nat} {p : Option Addr} (h : w.cell? ⟨pl, 5, none⟩ = some (.pointer p)) : Calls Tryz.prog 36 #[.pointer (some ⟨pl, 0, none⟩)] w fun e w' => e = .returned (.bool (p == none)) ∧ w = w' := by
  cases p
  · go_enter Tryz.func36, Tryz.ntmps36
    go_wp2
    go_ret
    exact ⟨rfl, rfl⟩
  · go_enter Tryz.func36, Tryz.ntmps36
    go_wp2
    go_ret
    exact ⟨rfl, rfl⟩

theorem LogAt.none {w : World} {pl pd md : Nat} {e : Em.E} {F : Nat → Prop} (x : LogAt w pl pd md e F) : Calls Tryz.prog 36 #[.pointer (some ⟨pl, 0, none⟩)] w fun e w' => e = .returned (.bool false) ∧ w = w' := by
  obtain ⟨m, row, _⟩ := x.row
  exact lnone_at (row_cell row rfl)

theorem setGone_row {w : World} {pl pd : Nat} {tp gen batches fin : Nat} {rows : Value} {gone : Bool} (h : w.heap[pl]? = some (.cells (logC tp gen rows batches fin pd gone) tLog (0, 0))) (g : Bool) :
    (w.setCell ⟨pl, 6, none⟩ (.bool g)).heap[pl]? = some (.cells (logC tp gen rows batches fin pd g) tLog (0, 0)) := heap_setCell_same w pl 6 _ tLog (.bool g) h

theorem setGone_log {w : World} {pl pd md : Nat} {e : Em.E} {F : Nat → Prop} (x : LogAt w pl pd md e F) (g : Bool) : LogAt (w.setCell ⟨pl, 6, none⟩ (.bool g)) pl pd md { e with gone := g } F ∧ Moves (fun k => k = pl) w (w.setCell ⟨pl, 6, none⟩ (.bool g)) := by
  have mv : Moves (fun k => k = pl) w (w.setCell ⟨pl, 6, none⟩ (.bool g)) := ⟨rfl, rfl, rfl, by simp, fun k hk hne => heap_setCell_other _ _ _ _ hne⟩
  obtain ⟨m, row, rows, hne⟩ := x.row
  have hg := x.good
  exact ⟨⟨⟨hg.tp, hg.gen, hg.batches, hg.fin, hg.rows, hg.few⟩, x.disk.off mv x.ne.1 x.ne.2.1 x.ne.2.2, ⟨m, setGone_row row g, rows_off rows mv hne.2.2, hne⟩, x.ne⟩, mv⟩

theorem log_set_gone {w W : World} {pl pd md : Nat} {e : Em.E} {F : Nat → Prop} {c : Int} {r : Em.E × Int} (h : LogLeft w pl pd md F (e, c) (.returned (.int .i64 c)) W) (g : Bool) (hr : r = ({ e with gone := g }, c)) :
    LogLeft w pl pd md F r (.returned (.int .i64 c)) (W.setCell ⟨pl, 6, none⟩ (.bool g)) := by
  subst hr
  obtain ⟨_, h2, h3⟩ := h
  obtain ⟨y, mv⟩ := setGone_log h3 g
  have s := mv.size
  refine ⟨rfl, h2.trans mv (fun i _ hi => Or.inl hi), ⟨y.good, y.disk.weak (fun k hk hl => ?_) ?_ ?_, y.row, y.ne.1, y.ne.2.1, ?_⟩⟩
  · rcases hk with hk | hk
    · exact Or.inl hk
    · exact Or.inr ⟨hk.1, hl⟩
  all_goals
    intro hk
    have l := h3.disk.lt
    have l2 := h3.ne.2.2
    obtain ⟨m, row, _⟩ := h3.row
    have lp := lt_of_row row
    have s2 : (W.setCell ⟨pl, 6, none⟩ (.bool g)).heap.size = W.heap.size := by simp
    rcases hk with hk | hk
    · first | exact l.2.2.2.1 (Or.inl hk) | exact l.2.2.2.2 (Or.inl hk) | exact l2 (Or.inl hk)
    · first | exact l.2.2.2.1 (Or.inr ⟨hk.1, by omega⟩) | exact l.2.2.2.2 (Or.inr ⟨hk.1, by omega⟩) | exact l2 (Or.inr ⟨hk.1, by omega⟩)

end Go.Proofs.YtgffifleflkjoaaGreat

namespace Go.Proofs.YtgffifleflkjoaaGreat
open Go.RowKit

/-- As Q; by a goto to label l: what stands behind the label runs on. -/
def Exit.fwd (P : Program) (l : Nat) (rest : Code) (Q : Exit → Act → World → Prop) : Exit → Act → World → Prop
  | .goto l', a, w => l' = l ∧ rest.wp P (Exit.noGoto Q) a w
  | e, a, w => Q e a w

theorem Exit.fwd_goto {P : Program} {l : Nat} {rest : Code} {Q : Exit → Act → World → Prop} {a : Act} {w : World} (h : rest.wp P (Exit.noGoto Q) a w) : Exit.fwd P l rest Q (.goto l) a w := ⟨rfl, h⟩
theorem Exit.fwd_ret {P : Program} {l : Nat} {rest : Code} {Q : Exit → Act → World → Prop} {a : Act} {w : World} : Exit.fwd P l rest Q .ret a w = Q .ret a w := rfl

theorem wp_scope_fwd {P : Program} {Q : Exit → Act → World → Prop} {a : Act} {w : World} {c rest : Code} (l : Nat) (hf : findLabel c l = some rest)
    (first : c.wp P (Exit.fwd P l rest Q) a w) : (Code.scope c).wp P Q a w := by
  intro b k cs
  have hg : gotoIn l (.inScope c :: k) = some (.code rest :: .inScope c :: k) := by simp [gotoIn, hf]
  obtain ⟨e, a₁, w₁, hq, harr⟩ := first b (.inScope c :: k) cs
  cases e with
  | normal => exact ⟨.normal, a₁, w₁, hq, .head step_scope (Steps.trans harr (.one step_inScope))⟩
  | exit id => exact ⟨.exit id, a₁, w₁, hq, fun k' hk => .head step_scope (harr k' (by simp [exitTo, hk]))⟩
  | goto l' =>
    obtain ⟨rfl, hJ⟩ := hq
    obtain ⟨e₂, a₂, w₂, hq₂, harr₂⟩ := hJ b (.inScope c :: k) cs
    cases e₂ with
    | normal => exact ⟨.normal, a₂, w₂, hq₂, .of_steps (.head step_scope (harr _ hg)) (Steps.trans harr₂ (.one step_inScope))⟩
    | exit id => exact ⟨.exit id, a₂, w₂, hq₂, fun k' hk => Steps.trans (.head step_scope (harr _ hg)) (harr₂ k' (by simp [exitTo, hk]))⟩
    | goto l'' => exact hq₂.elim
    | ret => exact ⟨_, a₂, w₂, hq₂, .of_steps (.head step_scope (harr _ hg)) harr₂⟩
    | panic ch => exact ⟨_, a₂, w₂, hq₂, .of_steps (.head step_scope (harr _ hg)) harr₂⟩
    | outgrown => exact ⟨_, a₂, w₂, hq₂, .of_steps (.head step_scope (harr _ hg)) harr₂⟩
  | ret => exact ⟨_, a₁, w₁, hq, .of_steps (.one step_scope) harr⟩
  | panic ch => exact ⟨_, a₁, w₁, hq, .of_steps (.one step_scope) harr⟩
  | outgrown => exact ⟨_, a₁, w₁, hq, .of_steps (.one step_scope) harr⟩

/-- The same, under a fence. -/
def Exit.fwdIn (F : Fence) (n : Nat) (P : Program) (l : Nat) (rest : Code) (Q : Exit → Act → World → Prop) : Exit → Act → World → Prop
  | .goto l', a, w => l' = l ∧ rest.wpIn F n P (Exit.noGoto Q) a w
  | e, a, w => Q e a w

theorem Exit.fwdIn_goto {F : Fence} {n : Nat} {P : Program} {l : Nat} {rest : Code} {Q : Exit → Act → World → Prop} {a : Act} {w : World} (h : rest.wpIn F n P (Exit.noGoto Q) a w) : Exit.fwdIn F n P l rest Q (.goto l) a w := ⟨rfl, h⟩
theorem Exit.fwdIn_ret {F : Fence} {n : Nat} {P : Program} {l : Nat} {rest : Code} {Q : Exit → Act → World → Prop} {a : Act} {w : World} : Exit.fwdIn F n P l rest Q .ret a w = Q .ret a w := rfl

theorem wpIn_scope_fwd {F : Fence} {n : Nat} {P : Program} {Q : Exit → Act → World → Prop} {a : Act} {w : World} {c rest : Code} (l : Nat) (hf : findLabel c l = some rest)
    (h : c.wpIn F n P (Exit.fwdIn F n P l rest Q) a w) : (Code.scope c).wpIn F n P Q a w := by
  intro b k cs hro hb hr
  have h0 : (lone (b.atR a (.code (.scope c) :: k)) cs w).fenced P F := fenced_calm hb hr rfl
  have hg : gotoIn l (.inScope c :: k) = some (.code rest :: .inScope c :: k) := by simp [gotoIn, hf]
  obtain ⟨e, a₁, w₁, hq, harr⟩ := h b (.inScope c :: k) cs hro hb hr
  have hx : ∀ id, exitTo id (.inScope c :: k) = exitTo id k := fun id => by simp [exitTo]
  cases e with
  | normal => exact ⟨.normal, a₁, w₁, hq, .head h0 stepR_scope (StepsIn.trans harr (.one (fenced_calm hb hr rfl) stepR_inScope))⟩
  | exit id => exact ⟨.exit id, a₁, w₁, hq, fun k' hk => .head h0 stepR_scope (harr.1 k' (by rw [hx]; exact hk)),
      fun hr' hk => let ⟨k₁, h1, h2⟩ := harr.2 hr' (by rw [hx]; exact hk); ⟨k₁, h1, .head h0 stepR_scope h2⟩⟩
  | goto l' =>
    obtain ⟨rfl, hJ⟩ := hq
    have pre := StepsIn.head h0 stepR_scope (harr.1 _ hg)
    obtain ⟨e₂, a₂, w₂, hq₂, harr₂⟩ := hJ b (.inScope c :: k) cs hro hb hr
    cases e₂ with
    | normal => exact ⟨.normal, a₂, w₂, hq₂, StepsIn.trans pre (StepsIn.trans harr₂ (.one (fenced_calm hb hr rfl) stepR_inScope))⟩
    | exit id => exact ⟨.exit id, a₂, w₂, hq₂, fun k' hk => pre.trans (harr₂.1 k' (by rw [hx]; exact hk)),
        fun hr' hk => let ⟨k₁, h1, h2⟩ := harr₂.2 hr' (by rw [hx]; exact hk); ⟨k₁, h1, pre.trans h2⟩⟩
    | goto l'' => exact hq₂.elim
    | ret => exact ⟨_, a₂, w₂, hq₂, .of_steps pre harr₂⟩
    | panic ch => exact ⟨_, a₂, w₂, hq₂, .of_steps pre harr₂⟩
    | outgrown => exact ⟨_, a₂, w₂, hq₂, .of_steps pre harr₂⟩
  | ret => exact ⟨_, a₁, w₁, hq, .of_steps (.one h0 stepR_scope) harr⟩
  | panic ch => exact ⟨_, a₁, w₁, hq, .of_steps (.one h0 stepR_scope) harr⟩
  | outgrown => exact ⟨_, a₁, w₁, hq, .of_steps (.one h0 stepR_scope) harr⟩

end Go.Proofs.YtgffifleflkjoaaGreat

namespace Go.Proofs.YtgffifleflkjoaaGreat
open Go.RowKit Dm

theorem commit_bad {e : Em.E} {l : List Em.Change} (h : Em.doneErr e.rows l ≠ 0) : e.commit l = (e, Em.doneErr e.rows l) := if_pos h
theorem commit_gone {e : Em.E} {l : List Em.Change} (h : Em.doneErr e.rows l = 0) (hg : e.gone = true) : e.commit l = (e, 290) := by
  unfold Em.E.commit; rw [if_neg (by omega), if_pos hg]
theorem commit_step {e : Em.E} {l : List Em.Change} (h : Em.doneErr e.rows l = 0) (hg : e.gone = false) : e.commit l = ({ (e.step (Em.behind e.rows l) (Em.batched l)).1 with gone := decide ((e.step (Em.behind e.rows l) (Em.batched l)).2 = 281) }, (e.step (Em.behind e.rows l) (Em.batched l)).2) := by
  unfold Em.E.commit; rw [if_neg (by omega), if_neg (by simp [hg])]

theorem rows_plm {w W : World} {pl pd md m n : Nat} {D : Em.Rows} (h : RowsIn w m n D) (hm : Moves (PLM pl pd md) w W) (h1 : m ≠ pl) (h2 : m ≠ pd) (h3 : m ≠ md) : RowsIn W m n D := by
  have lt := h.lt
  obtain ⟨es, clock, k1, F, hs, hD⟩ := h
  exact ⟨es, clock, (hm.block m lt (fun e => by rcases e with e | e | e; exact h1 e; exact h2 e; exact h3 e)).trans k1, F, hs, hD⟩

set_option maxRecDepth 100000 in
set_option maxHeartbeats 2000000 in
theorem commit_c {w : World} {pl pd md : Nat} {e : Em.E} {F G : Nat → Prop} {v : Value} {l : List Em.Change} (x : LogAt w pl pd md e F) (hw : e.d.waits.length ≤ 800000000) (h : ChangesAt w G v l) (hl : l.length ≤ 1000000) (hk : ∀ c ∈ l, c.key.length ≤ 1000000000 ∧ c.value.length ≤ 1000000000) :
    Calls Tryz.prog 11 #[.pointer (some ⟨pl, 0, none⟩), v] w (LogLeft w pl pd md F (e.commit l)) := by
  have NC := Lib.hid x.none
  obtain ⟨mr, row, rows, hne⟩ := x.row
  have DC := done_c rows (by have := x.good.few; omega) h hl hk
  have f2 : w.cell? ⟨pl, 2, none⟩ = some (.map (some mr)) := row_cell row rfl
  have f6 : w.cell? ⟨pl, 6, none⟩ = some (.bool e.gone) := row_cell row rfl
  have lpl := lt_of_row row
  by_cases hd : Em.doneErr e.rows l = 0
  · have DC : Calls Tryz.prog 37 #[.map (some mr), v] w fun en w' => Below w.heap.size w w' ∧ ∃ m, en = .returned (.tuple #[.map (some m), .int .i64 0]) ∧ w.heap.size ≤ m ∧ RowsIn w' m (Maps.size (Em.behind e.rows l)) (Em.behind e.rows l) :=
      DC.mono fun en w' hh => ⟨hh.1, hh.2.elim (fun q => absurd hd q.1) (fun q => q.2)⟩
    have DC := Lib.hid DC
    obtain ⟨hr, hs⟩ := Em.doneErr_zero hd
    by_cases hg : e.gone = true
    · have HP := Lib.hid (commit_gone hd hg)
      have X := Lib.hid x
      rw [hg] at f6
      clear x row rows hne h hd hg hk
      go_enter Tryz.func11, Tryz.ntmps11
      go_wp2
      refine wp_scope_fwd 0 rfl ?_
      go_wp2_with (first
        | (go_at_call 36; refine NC.out.mono ?_; rintro en w0 ⟨rfl, rfl⟩)
        | (go_at_call 37; refine DC.out.mono ?_; rintro en w1 ⟨b1, m, rfl, hm, r1⟩
           have g6 : w1.cell? ⟨pl, 6, none⟩ = some (.bool true) := (b1.cell (p := ⟨pl, 6, none⟩) lpl).trans f6
           have H1 := Lib.hid (And.intro b1 r1)
           clear b1 r1 f6))
      refine wp_goto ?_
      refine Exit.fwd_goto ?_
      go_wp2
      try go_step3
      go_wp2
      rw [Exit.noGoto_ret]
      go_ret
      rw [HP.out]
      exact log_left_below X.out 290 H1.out.1
    · have hg : e.gone = false := by simpa using hg
      have HP := Lib.hid (commit_step hd hg)
      have hb := Em.framed_len (Em.batchBody l)
      have hgd := Em.put_good (b := Em.batched l) x.good (Em.rowsOk_behind x.good.rows hr) hs hb
      have hrk := Em.rowsOk_behind x.good.rows hr
      have hpw := put_waits e (Em.behind e.rows l) (Em.batched l)
      have X := Lib.hid (And.intro x (And.intro h (And.intro hr (And.intro hs (And.intro hb (And.intro hgd (And.intro hrk (And.intro hg (And.intro hw hpw)))))))))
      rw [hg] at f6
      obtain ⟨e2, c2, hput⟩ : ∃ e2 c2, e.put (Em.behind e.rows l) (Em.batched l) = (e2, c2) := ⟨_, _, rfl⟩
      have HU := Lib.hid hput
      by_cases hc : c2 = 280
      · subst hc
        have HS := Lib.hid (show e.step (Em.behind e.rows l) (Em.batched l) = e2.fold (Em.behind e.rows l) by unfold Em.E.step; rw [hput]; simp)
        clear x row rows hne h hd hg hk hr hs hb hgd hrk hpw hput
        go_enter Tryz.func11, Tryz.ntmps11
        go_wp2
        refine wp_scope_fwd 0 rfl ?_
        go_wp2_with (first
          | (go_at_call 36; refine NC.out.mono ?_; rintro en w0 ⟨rfl, rfl⟩)
          | (go_at_call 37; refine DC.out.mono ?_; rintro en w1 ⟨b1, m, rfl, hm, r1⟩
             have g6 : w1.cell? ⟨pl, 6, none⟩ = some (.bool false) := (b1.cell (p := ⟨pl, 6, none⟩) lpl).trans f6
             have H1 := Lib.hid (And.intro b1 (And.intro r1 hm))
             clear b1 r1 f6)
          | (go_at_call 38
             go_loud (refine (lapp_c (batched_c (X.out.2.1.later H1.out.1) X.out.2.2.1) (log_below X.out.1 H1.out.1) X.out.2.2.2.2.2.2.2.1 (by have := X.out.2.2.2.2.2.2.2.2.1; omega) X.out.2.2.2.2.1 H1.out.2.1 (by have := X.out.1.disk.lt; omega) (by have := X.out.1.disk.lt; omega) (by omega) X.out.2.2.2.2.2.1).mono ?_)
             rw [HU.out]
             rintro en w2 ⟨rfl, m2, x2⟩
             have H2 := Lib.hid (And.intro m2 x2)
             clear m2 x2)
          | (go_at_call 39
             go_loud (have lt := X.out.1.disk.lt
                      have hpw := X.out.2.2.2.2.2.2.2.2.2
                      rw [HU.out] at hpw
                      have hw2 : e2.d.waits.length ≤ 900000000 := by have := X.out.2.2.2.2.2.2.2.2.1; simp only at hpw; omega
                      have r2 := rows_plm H1.out.2.1 H2.out.1 (by have := H1.out.2.2; omega) (by have := H1.out.2.2; omega) (by have := H1.out.2.2; omega)
                      refine (fold_c H2.out.2 hw2 r2 X.out.2.2.2.2.2.2.1 X.out.2.2.2.1 (by have := H1.out.2.2; omega) (by have := H1.out.2.2; omega) (by have := H1.out.2.2; omega)).mono ?_
                      clear hpw r2 hw2 lt
                      obtain ⟨r3, hr3⟩ : ∃ r, e2.fold (Em.behind e.rows l) = r := ⟨_, rfl⟩
                      rw [hr3] at HS ⊢
                      clear hr3
                      rintro en w3 ⟨rfl, m3, x3⟩
                      have LL := Lib.hid (log_then (r := r3) X.out.1 (Moves.of_below H1.out.1) (log_then (log_below X.out.1 H1.out.1) H2.out.1 ⟨rfl, m3, x3⟩))
                      obtain ⟨m', row3, _⟩ := x3.row
                      have k6 := row_cell row3 (j := 6) rfl
                      have z6 := row_free row3 6
                      clear m3 x3 row3)))
        go_step3
        go_wp2
        rw [Exit.fwd_ret]
        go_ret
        have hrr : e.commit l = ({ r3.1 with gone := r3.2 == 281 }, r3.2) := by rw [HP.out, HS.out]; rfl
        exact log_set_gone LL.out _ hrr
      · have HS := Lib.hid (show e.step (Em.behind e.rows l) (Em.batched l) = (e2, c2) by unfold Em.E.step; rw [hput]; exact if_neg hc)
        clear x row rows hne h hd hg hk hr hs hb hgd hrk hpw hput
        go_enter Tryz.func11, Tryz.ntmps11
        go_wp2
        refine wp_scope_fwd 0 rfl ?_
        go_wp2_with (first
          | (go_at_call 36; refine NC.out.mono ?_; rintro en w0 ⟨rfl, rfl⟩)
          | (go_at_call 37; refine DC.out.mono ?_; rintro en w1 ⟨b1, m, rfl, hm, r1⟩
             have g6 : w1.cell? ⟨pl, 6, none⟩ = some (.bool false) := (b1.cell (p := ⟨pl, 6, none⟩) lpl).trans f6
             have H1 := Lib.hid (And.intro b1 (And.intro r1 hm))
             clear b1 r1 f6)
          | (go_at_call 38
             refine (lapp_c (batched_c (X.out.2.1.later H1.out.1) X.out.2.2.1) (log_below X.out.1 H1.out.1) X.out.2.2.2.2.2.2.2.1 (by have := X.out.2.2.2.2.2.2.2.2.1; omega) X.out.2.2.2.2.1 H1.out.2.1 (by have := X.out.1.disk.lt; omega) (by have := X.out.1.disk.lt; omega) (by omega) X.out.2.2.2.2.2.1).mono ?_
             rw [HU.out]
             rintro en w2 ⟨rfl, m2, x2⟩
             have LL := Lib.hid (log_then (r := (e2, c2)) X.out.1 (Moves.of_below H1.out.1) ⟨rfl, m2, x2⟩)
             obtain ⟨m', row3, _⟩ := x2.row
             have k6 := row_cell row3 (j := 6) rfl
             have z6 := row_free row3 6
             clear m2 x2 row3))
        go_step3
        go_wp2
        rw [Exit.fwd_ret]
        go_ret
        have hrr : e.commit l = ({ e2 with gone := c2 == 281 }, c2) := by rw [HP.out, HS.out]; rfl
        exact log_set_gone LL.out _ hrr
  · have DC : Calls Tryz.prog 37 #[.map (some mr), v] w fun en w' => Below w.heap.size w w' ∧ en = .returned (.tuple #[.map none, .int .i64 (Em.doneErr e.rows l)]) :=
      DC.mono fun en w' hh => ⟨hh.1, hh.2.elim (fun q => q.2) (fun q => absurd q.1 hd)⟩
    have DC := Lib.hid DC
    have HP := Lib.hid (commit_bad hd)
    have X := Lib.hid x
    generalize Em.doneErr e.rows l = c at *
    clear x row rows hne h hk f6
    go_enter Tryz.func11, Tryz.ntmps11
    go_wp2
    refine wp_scope_fwd 0 rfl ?_
    go_wp2_with (first
      | (go_at_call 36; refine NC.out.mono ?_; rintro en w0 ⟨rfl, rfl⟩)
      | (go_at_call 37; refine DC.out.mono ?_; rintro en w1 ⟨b1, rfl⟩
         have H1 := Lib.hid b1
         clear b1))
    refine wp_goto ?_
    refine Exit.fwd_goto ?_
    go_wp2
    try go_step3
    go_wp2
    rw [Exit.noGoto_ret]
    go_ret
    rw [HP.out]
    exact log_left_below X.out c H1.out

end Go.Proofs.YtgffifleflkjoaaGreat

namespace Go.Proofs.YtgffifleflkjoaaGreat
open Go.RowKit Dm

abbrev tLacks : Nat := 210
abbrev tBool : Nat := 4

/-- One gives up. -/
abbrev gaveUp : List PanicEntry := [{ v := .iface tLacks (.agg #[]), recovered := false }]

theorem must_yes (w : World) : Calls Tryz.prog 109 #[.bool true] w fun e w' => e = .returned (.tuple #[]) ∧ w = w' := by
  go_enter Tryz.func109, Tryz.ntmps109
  go_wp2
  go_end0
  exact ⟨rfl, rfl⟩

theorem must_no (w : World) : Calls Tryz.prog 109 #[.bool false] w fun e w' => e = .panicked gaveUp ∧ w = w' := by
  go_enter Tryz.func109, Tryz.ntmps109
  go_wp2
  exact ⟨rfl, rfl, rfl⟩

theorem run_lacks (w : World) : (Instr.typeAssert (.iface tLacks (.agg #[])) 20 tLacks false).run Tryz.prog w = .ok (.agg #[]) w := by kernel_rfl

theorem catch_up (p : Addr) (x : Value) (older : List PanicEntry) (w : World) (hc : w.cell? p = some x) (hz : w.frozen? p = false) :
    CallsD Tryz.prog 146 #[.pointer (some p)] (.panicking ({ v := .iface tLacks (.agg #[]), recovered := false } :: older)) w fun e u' w' =>
      e = .returned (.tuple #[]) ∧ u' = .panicking ({ v := .iface tLacks (.agg #[]), recovered := true } :: older) ∧ w' = w.setCell p (.bool false) := by
  refine callsD_of_wpS Tryz.func146 rfl fun c₀ cs hu => ?_
  apply wpS_seq
  apply wpS_region
  simp [wpOpsS, go_sem, recoverD, hu, Tryz.ntmps146, Exit.thenS]
  apply wpS_seq
  apply wpS_region
  simp [wpOpsS, go_sem, Exit.thenS]
  refine wpS_cond (t := true) (by simp [Act.eval, Array.replicate]) ?_
  simp only [if_true]
  apply wpS_seq
  apply wpS_region
  have hrl := run_lacks w
  simp [wpOpsS, go_sem, Exit.thenS, hrl]
  apply wpS_region
  simp [wpOpsS, go_sem, hc, hz, bodyPostS, results, Tryz.results146]

theorem catch_idle (p : Addr) (w : World) :
    CallsD Tryz.prog 146 #[.pointer (some p)] .returning w fun e u' w' => e = .returned (.tuple #[]) ∧ u' = .returning ∧ w' = w := by
  refine callsD_of_wpS Tryz.func146 rfl fun c₀ cs hu => ?_
  apply wpS_seq
  apply wpS_region
  simp [wpOpsS, go_sem, recoverD, hu, Tryz.ntmps146, Exit.thenS]
  apply wpS_seq
  apply wpS_region
  simp [wpOpsS, go_sem, Exit.thenS]
  refine wpS_cond (t := false) (by simp [Act.eval, Array.replicate]) ?_
  simp only [Bool.false_eq_true, if_false]
  refine wpS_of_wp (wp_skip ?_)
  cases c₀
  simp_all [bodyPostS, results, Tryz.results146]

theorem tried_no {w : World} {fn : Nat} {fs cs : Array Value} {R : World → Prop} (eg : ∀ args w, (callFunc fn args).run Tryz.prog w = .ok (.enter fn args) w)
    (HC : Calls Tryz.prog fn (fs ++ cs) (w.alloc (.cells #[.bool false] tBool)) fun e w' => e = .panicked gaveUp ∧ R w')
    (hR : ∀ w', R w' → w'.heap[w.heap.size]? = some (.cells #[.bool false] tBool (0, 0))) :
    Calls Tryz.prog 110 #[.func (.func fn) fs cs] w fun e w' => e = .returned (.bool false) ∧ ∃ W, R W ∧ w' = W.setCell ⟨w.heap.size, 0, none⟩ (.bool false) := by
  have hmf : ∀ (fn : Fn) (first cap : Array Value) (w : World), (Instr.makeFunc fn first cap).run Tryz.prog w = .ok (.func fn first cap) w := fun _ _ _ _ => rfl
  go_enter_defers Tryz.func110, Tryz.ntmps110
  go_wp2_with (refine HC.mono ?_; rintro e w2 ⟨rfl, r2⟩)
  refine leaves_cons (f := 146) (args := #[.pointer (some ⟨w.heap.size, 0, none⟩)]) (by simp) (by simp [go_sem]) ?_
  refine (catch_up ⟨w.heap.size, 0, none⟩ (.bool false) [] _ ?_ ?_).mono ?_
  · exact row_cell (hR _ r2) rfl
  · exact row_free (hR _ r2) _
  rintro e u' w'' ⟨rfl, rfl, rfl⟩
  have h1 : (w2.setCell ⟨w.heap.size, 0, none⟩ (.bool false)).cell? ⟨w.heap.size, 0, none⟩ = some (.bool false) := row_cell (heap_setCell_same _ _ 0 _ tBool (.bool false) (hR _ r2)) rfl
  simp [Leaves, settle, results, Tryz.results110, go_sem, h1]
  exact ⟨w2, r2, rfl⟩

theorem tried_yes {w : World} {fn : Nat} {fs cs : Array Value} {R : World → Prop} (eg : ∀ args w, (callFunc fn args).run Tryz.prog w = .ok (.enter fn args) w)
    (HC : Calls Tryz.prog fn (fs ++ cs) (w.alloc (.cells #[.bool false] tBool)) fun e w' => e = .returned (.tuple #[]) ∧ R w')
    (hR : ∀ w', R w' → w'.heap[w.heap.size]? = some (.cells #[.bool false] tBool (0, 0))) :
    Calls Tryz.prog 110 #[.func (.func fn) fs cs] w fun e w' => e = .returned (.bool true) ∧ ∃ W, R W ∧ w' = W.setCell ⟨w.heap.size, 0, none⟩ (.bool true) := by
  have hmf : ∀ (fn : Fn) (first cap : Array Value) (w : World), (Instr.makeFunc fn first cap).run Tryz.prog w = .ok (.func fn first cap) w := fun _ _ _ _ => rfl
  go_enter_defers Tryz.func110, Tryz.ntmps110
  go_wp2_with (refine HC.mono ?_; rintro e w2 ⟨rfl, r2⟩
               have c2 : w2.cell? ⟨w.heap.size, 0, none⟩ = some (.bool false) := row_cell (hR _ r2) rfl
               have z2 := row_free (hR _ r2) 0)
  refine leaves_cons (f := 146) (args := #[.pointer (some ⟨w.heap.size, 0, none⟩)]) (by simp) (by simp [go_sem]) ?_
  refine (catch_idle ⟨w.heap.size, 0, none⟩ _).mono ?_
  rintro e u' w'' ⟨rfl, rfl, rfl⟩
  have h1 : (w2.setCell ⟨w.heap.size, 0, none⟩ (.bool true)).cell? ⟨w.heap.size, 0, none⟩ = some (.bool true) := row_cell (heap_setCell_same _ _ 0 _ tBool (.bool true) (hR _ r2)) rfl
  simp [Leaves, settle, results, Tryz.results110, go_sem, h1]
  exact ⟨w2, r2, rfl⟩

end Go.Proofs.YtgffifleflkjoaaGreat

namespace Go.Proofs.YtgffifleflkjoaaGreat
open Go.RowKit

theorem first_nil (w : World) (v : Value) (F : Nat → Prop) (h : BytesAt w.heap F v []) :
    Calls Tryz.prog 144 #[v] w fun e w' => e = .returned (.tuple #[.int .i64 0, .int .i64 0]) ∧ w = w' := by
  obtain ⟨va, vc, rfl⟩ := h.slice
  clear h
  go_enter Tryz.func144, Tryz.ntmps144
  go_wp2
  go_ret2
  exact ⟨rfl, rfl⟩

abbrev litMany : Array MapEntry := #[⟨.int .u8 253, .int .i64 2, 0⟩, ⟨.int .u8 254, .int .i64 4, 1⟩, ⟨.int .u8 255, .int .i64 8, 2⟩]

theorem wpList_insert_lit {ops : Array Oper} {rest : List Oper} {o : Oper} {a : Act} {w : World} {Q : Exit → Act → World → Prop} (hgd : o.guard = none) (m x v : Operand) (ho : o.op = .insert 243 m x v) (es : Array MapEntry) (k : Nat) (n : Int) (u : Value)
    (hm : a.eval m = .map (some w.heap.size)) (hx : a.eval x = .int .u8 n) (hv : a.eval v = u) (hf : Instr.findNow (.int .u8) (.int .u8 n) es.toList 0 = some none)
    (h : wpList Tryz.prog ops Q rest (a.put o.dst undef) (w.alloc (.map (es.push ⟨.int .u8 n, u, k⟩) (k + 1)))) : wpList Tryz.prog ops Q (o :: rest) a (w.alloc (.map es k)) :=
  wpList_plain hgd fun K hK => by
    have hrun := run_mapUpdate_new (P := Tryz.prog) (w := w.alloc (.map es k)) 243 5 3 (.int .u8) w.heap.size es k (.int .u8 n) u Tryz.underlying243 Tryz.underlying5 rfl (heap_alloc_last w _) hf
    rw [putObj_alloc _ _ _ _ rfl] at hrun
    unfold Oper.wp execOp
    simp only [ho, hm, hx, hv, Sem.run_bind, hrun, Result.andThen_ok, Sem.run_pure]
    exact hK _ _ h

theorem lookup_many (w : World) (m : Nat) (h : w.heap[m]? = some (.map litMany 3)) (c : UInt8) : (Instr.lookup 243 (.map (some m)) (.int .u8 c.toNat) false).run Tryz.prog w = .ok (.int .i64 (Wm.many c)) w := by
  by_cases h1 : c = 253
  · subst h1
    exact run_lookup_at 243 5 3 (.int .u8) m litMany 3 _ (.int .i64 0) false (some (0, .int .i64 2)) Tryz.underlying243 Tryz.underlying5 rfl h rfl (by kernel_rfl)
  · by_cases h2 : c = 254
    · subst h2
      exact run_lookup_at 243 5 3 (.int .u8) m litMany 3 _ (.int .i64 0) false (some (1, .int .i64 4)) Tryz.underlying243 Tryz.underlying5 rfl h rfl (by kernel_rfl)
    · by_cases h3 : c = 255
      · subst h3
        exact run_lookup_at 243 5 3 (.int .u8) m litMany 3 _ (.int .i64 0) false (some (2, .int .i64 8)) Tryz.underlying243 Tryz.underlying5 rfl h rfl (by kernel_rfl)
      · have k1 : ¬ c.toNat = 253 := fun e => h1 (UInt8.toNat_inj.1 e)
        have k2 : ¬ c.toNat = 254 := fun e => h2 (UInt8.toNat_inj.1 e)
        have k3 : ¬ c.toNat = 255 := fun e => h3 (UInt8.toNat_inj.1 e)
        have i1 : ((c.toNat : Int) == 253) = false := by rw [beq_eq_false_iff_ne]; omega
        have i2 : ((c.toNat : Int) == 254) = false := by rw [beq_eq_false_iff_ne]; omega
        have i3 : ((c.toNat : Int) == 255) = false := by rw [beq_eq_false_iff_ne]; omega
        have hm : Wm.many c = 0 := by unfold Wm.many; rw [if_neg h1, if_neg h2, if_neg h3]
        rw [hm]
        refine run_lookup_at 243 5 3 (.int .u8) m litMany 3 _ (.int .i64 0) false none Tryz.underlying243 Tryz.underlying5 rfl h ?_ (by kernel_rfl)
        simp only [litMany, Instr.findNow, Instr.sameNow, i1, i2, i3, if_true]

theorem wpList_lookup_many {ops : Array Oper} {rest : List Oper} {o : Oper} {a : Act} {w : World} {Q : Exit → Act → World → Prop} (hgd : o.guard = none) (m x : Operand) (ho : o.op = .lookup 243 m x false) (b : Nat) (c : UInt8)
    (hm : a.eval m = .map (some b)) (hx : a.eval x = .int .u8 c.toNat) (hb : w.heap[b]? = some (.map litMany 3))
    (h : wpList Tryz.prog ops Q rest (a.put o.dst (.int .i64 (Wm.many c))) w) : wpList Tryz.prog ops Q (o :: rest) a w :=
  wpList_plain hgd fun K hK => by
    have hrun := lookup_many w b hb c
    unfold Oper.wp execOp
    simp only [ho, hm, hx, Sem.run_bind, hrun, Result.andThen_ok, Sem.run_pure]
    exact hK _ _ h

set_option maxRecDepth 100000 in
set_option maxHeartbeats 2000000 in
theorem first_one (w : World) (v : Value) (F : Nat → Prop) (c : UInt8) (l : List UInt8) (h : BytesAt w.heap F v (c :: l)) (hl : l.length ≤ 1000000000) (hc : Wm.many c = 0) :
    Calls Tryz.prog 144 #[v] w fun e w' => e = .returned (.tuple #[.int .i64 c.toNat, .int .i64 1]) ∧ Below w.heap.size w w' := by
  obtain ⟨b, o, cap, cs, t, fr, rfl, hle, hcap, hF, hrow, hcell⟩ : ∃ (b o cap : Nat) (cs : Array Value) (t : TypeId) (fr : Nat × Nat), v = .slice (some ⟨b, o, none⟩) (c :: l).length cap ∧ (c :: l).length ≤ cap ∧ cap ≤ 9223372036854775807 ∧ F b ∧ w.heap[b]? = some (.cells cs t fr) ∧ ∀ i x, (c :: l)[i]? = some x → cs[o + i]? = some (bval x) := by
    rcases h with ⟨_, h⟩ | h
    · cases h
    · exact h
  have k0 : w.cell? ⟨b, o, none⟩ = some (.int .u8 c.toNat) := (cell_of_row _ _ _ _ _ _ hrow).trans (hcell 0 c rfl)
  have hlt : b < w.heap.size := block_lt_of_cell k0
  have k1 : ∀ ob m, ((w.alloc ob).drewN m).cell? ⟨b, o, none⟩ = some (.int .u8 c.toNat) := fun ob m => ((below_drewN ((Below.refl _ _).alloc (Nat.le_refl _) ob) m).cell (p := ⟨b, o, none⟩) hlt).trans k0
  have k2 : ∀ ob, (w.alloc ob).cell? ⟨b, o, none⟩ = some (.int .u8 c.toNat) := fun ob => (((Below.refl _ _).alloc (Nat.le_refl _) ob).cell (p := ⟨b, o, none⟩) hlt).trans k0
  have hn : ((c :: l).length : Int) = (l.length : Int) + 1 := by simp
  generalize (c :: l).length = n at *
  have n0 : ¬ (n : Int) = 0 := by omega
  have n1 : (0 : Int) < (n : Int) := by omega
  clear hcell hrow hle hcap h
  have wc : wrap64 (c.toNat : Int) = c.toNat := by have := c.toNat_lt; unfold wrap64; omega
  have HC := Lib.hid hc
  clear hc
  have hmm := @run_makeMap Tryz.prog
  go_enter Tryz.func144, Tryz.ntmps144
  go_wp2_with (first
    | (refine wpList_insert_lit rfl (.tmp 10) _ _ rfl _ _ 253 _ rfl rfl rfl rfl ?_)
    | (refine wpList_insert_lit rfl (.tmp 10) _ _ rfl _ _ 254 _ rfl rfl rfl rfl ?_)
    | (refine wpList_insert_lit rfl (.tmp 10) _ _ rfl _ _ 255 _ rfl rfl rfl rfl ?_)
    | (refine wpList_lookup_many rfl (.tmp 11) (.tmp 14) rfl w.heap.size c rfl rfl (heap_alloc_last w _) ?_; rw [HC.out]))
  go_ret2
  refine ⟨?_, (Below.refl _ _).alloc (Nat.le_refl _) _⟩
  show Ending.returned (.tuple #[.int .i64 (wrap64 c.toNat), .int .i64 1]) = _
  rw [wc]
set_option maxRecDepth 100000 in
set_option maxHeartbeats 2000000 in
theorem first_few (w : World) (v : Value) (F : Nat → Prop) (c : UInt8) (l : List UInt8) (h : BytesAt w.heap F v (c :: l)) (hl : l.length ≤ 1000000000) (hc : Wm.many c ≠ 0) (hf : l.length < Wm.many c) :
    Calls Tryz.prog 144 #[v] w fun e w' => e = .returned (.tuple #[.int .i64 0, .int .i64 0]) ∧ Below w.heap.size w w' := by
  obtain ⟨b, o, cap, cs, t, fr, rfl, hle, hcap, hF, hrow, hcell⟩ : ∃ (b o cap : Nat) (cs : Array Value) (t : TypeId) (fr : Nat × Nat), v = .slice (some ⟨b, o, none⟩) (c :: l).length cap ∧ (c :: l).length ≤ cap ∧ cap ≤ 9223372036854775807 ∧ F b ∧ w.heap[b]? = some (.cells cs t fr) ∧ ∀ i x, (c :: l)[i]? = some x → cs[o + i]? = some (bval x) := by
    rcases h with ⟨_, h⟩ | h
    · cases h
    · exact h
  have k0 : w.cell? ⟨b, o, none⟩ = some (.int .u8 c.toNat) := (cell_of_row _ _ _ _ _ _ hrow).trans (hcell 0 c rfl)
  have hlt : b < w.heap.size := block_lt_of_cell k0
  have k1 : ∀ ob m, ((w.alloc ob).drewN m).cell? ⟨b, o, none⟩ = some (.int .u8 c.toNat) := fun ob m => ((below_drewN ((Below.refl _ _).alloc (Nat.le_refl _) ob) m).cell (p := ⟨b, o, none⟩) hlt).trans k0
  have k2 : ∀ ob, (w.alloc ob).cell? ⟨b, o, none⟩ = some (.int .u8 c.toNat) := fun ob => (((Below.refl _ _).alloc (Nat.le_refl _) ob).cell (p := ⟨b, o, none⟩) hlt).trans k0
  have hn : ((c :: l).length : Int) = (l.length : Int) + 1 := by simp
  generalize (c :: l).length = n at *
  have n0 : ¬ (n : Int) = 0 := by omega
  have n1 : (0 : Int) < (n : Int) := by omega
  clear hcell hrow hle hcap h
  have wc : wrap64 (c.toNat : Int) = c.toNat := by have := c.toNat_lt; unfold wrap64; omega
  have hc0 : ¬ (Wm.many c : Int) = 0 := by omega
  have hc1 : (l.length : Int) + 1 ≤ (Wm.many c : Int) := by omega
  clear hc hf
  have hmm := @run_makeMap Tryz.prog
  go_enter Tryz.func144, Tryz.ntmps144
  go_wp2_with (first
    | (refine wpList_insert_lit rfl (.tmp 10) _ _ rfl _ _ 253 _ rfl rfl rfl rfl ?_)
    | (refine wpList_insert_lit rfl (.tmp 10) _ _ rfl _ _ 254 _ rfl rfl rfl rfl ?_)
    | (refine wpList_insert_lit rfl (.tmp 10) _ _ rfl _ _ 255 _ rfl rfl rfl rfl ?_)
    | (refine wpList_lookup_many rfl (.tmp 11) (.tmp 14) rfl w.heap.size c rfl rfl (heap_alloc_last w _) ?_))
  go_ret2
  exact ⟨rfl, (Below.refl _ _).alloc (Nat.le_refl _) _⟩

end Go.Proofs.YtgffifleflkjoaaGreat

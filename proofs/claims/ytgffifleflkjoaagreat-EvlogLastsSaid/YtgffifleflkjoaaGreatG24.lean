/-
  The document's batches: which may be.
  evlog: append onto changes of one's own.
  evlog: the bounds: no bound is asked; a key.
  evlog: the bounds of a key and of a value.
  evlog: the bound of a batch's changes.
  The document's rows behind a change.
-/
import Derived.Test.YtgffifleflkjoaaGreatG11
import Derived.Test.YtgffifleflkjoaaGreatG12
import Derived.Test.YtgffifleflkjoaaGreatG14
import Derived.Test.YtgffifleflkjoaaGreatG23

namespace Go.Proofs.YtgffifleflkjoaaGreat
open Go.RowKit Dm

set_option maxRecDepth 100000 in
set_option maxHeartbeats 1000000 in
theorem rchange_c (w : World) (c : Em.Change) : Calls Tryz.prog 81 #[.agg #[strOfB c.key, strOfB c.value, .bool c.gone]] w fun e w' => e = .returned (.int .i64 (if c.wrong = true then 2 else 0)) ∧ Below w.heap.size w w' := by
  obtain ⟨k, v, g⟩ := c
  have Z := heap_alloc_last w (.cells #[strOfB k, strOfB v, .bool g] tChange)
  have z0 : (w.alloc (.cells #[strOfB k, strOfB v, .bool g] tChange)).cell? ⟨w.heap.size, 0, none⟩ = some (strOfB k) := (cell_of_row _ _ _ _ _ _ Z).trans rfl
  have z1 : (w.alloc (.cells #[strOfB k, strOfB v, .bool g] tChange)).cell? ⟨w.heap.size, 1, none⟩ = some (strOfB v) := (cell_of_row _ _ _ _ _ _ Z).trans rfl
  have z2 : (w.alloc (.cells #[strOfB k, strOfB v, .bool g] tChange)).cell? ⟨w.heap.size, 2, none⟩ = some (.bool g) := (cell_of_row _ _ _ _ _ _ Z).trans rfl
  clear Z
  have qk := empty_beq k
  have qv := empty_beq v
  go_enter Tryz.func81, Tryz.ntmps81
  go_wp2
  all_goals
    go_ret
    refine ⟨?_, (Below.refl _ _).alloc (Nat.le_refl _) _⟩
    simp_all [Em.Change.wrong]

theorem any_wrong_of {l : List Em.Change} {i : Nat} {c : Em.Change} (hc : l[i]? = some c) (h : c.wrong = true) : Em.right l = 2 := by
  unfold Em.right
  rw [if_pos (List.any_eq_true.2 ⟨c, List.mem_of_getElem? hc, h⟩)]

theorem any_not {α : Type} {p : α → Bool} {l : List α} (h : ∀ (j : Nat) (c : α), l[j]? = some c → p c = false) : l.any p = false := by
  rw [List.any_eq_false]
  intro c hc
  obtain ⟨j, hj, rfl⟩ := List.mem_iff_getElem.1 hc
  rw [h j _ (List.getElem?_eq_getElem hj)]
  decide

set_option maxRecDepth 100000 in
set_option maxHeartbeats 2000000 in
theorem rbatch_c {w : World} {F : Nat → Prop} {v : Value} {l : List Em.Change} (h : ChangesAt w F v l) (hl : l.length ≤ 1000000000) :
    Calls Tryz.prog 40 #[v] w fun e w' => e = .returned (.int .i64 (Em.right l)) ∧ Below w.heap.size w w' := by
  obtain ⟨a, cap, rfl⟩ := h.slice
  have H := Lib.hid h
  clear h
  generalize hN : l.length = N at *
  have HN := Lib.hid hN
  clear hN
  go_enter Tryz.func40, Tryz.ntmps40
  go_wp2
  go_loopw [3] (fun s wr => ∃ i : Nat, i ≤ N ∧ s = .int .i64 (i : Int) ∧ (∀ (j : Nat) (c : Em.Change), j < i → l[j]? = some c → c.wrong = false) ∧ Below w.heap.size w wr) (fun s _ => N - (intOf s).toNat)
  case atStart => exact ⟨0, by omega, rfl, fun j c hj => absurd hj (by omega), Below.refl _ _⟩
  case round =>
    obtain ⟨i, hi, rfl, hno, hb⟩ := hrel
    by_cases hlt : i < N
    · have i0 : (0 : Int) ≤ (i : Int) := by omega
      have i1 : (i : Int) < (N : Int) := by omega
      obtain ⟨c, hc⟩ : ∃ c, l[i]? = some c := ⟨_, List.getElem?_eq_getElem (by rw [HN.out]; exact hlt)⟩
      obtain ⟨b, o, rfl, fb, lb, rg⟩ := H.out.at hc
      have RG := Lib.hid (show wr.rangeAt b (o + i * 3) [strOfB c.key, strOfB c.value, .bool c.gone] from fun j v hj => (hb.cell (p := ⟨b, o + i * 3 + j, none⟩) lb).trans (rg j v hj))
      have CC := Lib.hid (rchange_c wr c)
      have HI := Lib.hid (And.intro hno (And.intro hb hc))
      clear hno hb hc rg
      cases hw : c.wrong
      · rw [hw] at CC
        have HW := Lib.hid hw
        clear hw
        go_wp2_with (first
          | (refine wpList_load_mid rfl tChange (.tmp 13) rfl b (o + i * 3) rfl _ _ RG.out Tryz.underlying33 rfl infoChange ?_)
          | (go_at_call 81; refine CC.out.mono ?_; rintro e w1 ⟨rfl, b1⟩; have H1 := Lib.hid b1; clear b1))
        go_roundw
        case rel =>
          refine ⟨i + 1, by omega, by go_num, fun j c' hj hc' => ?_, below_more HI.out.2.1 H1.out⟩
          by_cases e : j = i
          · subst e
            rw [HI.out.2.2] at hc'
            cases hc'
            exact HW.out
          · exact HI.out.1 j c' (by omega) hc'
        case measure => simp [intOf]; omega
      · rw [hw] at CC
        have HR := Lib.hid (any_wrong_of HI.out.2.2 hw)
        clear hw
        go_wp2_with (first
          | (refine wpList_load_mid rfl tChange (.tmp 13) rfl b (o + i * 3) rfl _ _ RG.out Tryz.underlying33 rfl infoChange ?_)
          | (go_at_call 81; refine CC.out.mono ?_; rintro e w1 ⟨rfl, b1⟩; have H1 := Lib.hid b1; clear b1))
        go_ret
        exact ⟨by rw [HR.out]; rfl, below_more HI.out.2.1 H1.out⟩
    · obtain rfl : i = N := by omega
      have hno : l.any Em.Change.wrong = false := any_not (fun j c hj => hno j c (by have := (List.getElem?_eq_some_iff.1 hj).1; have := HN.out; omega) hj)
      have HO := Lib.hid (And.intro hno hb)
      clear hno hb
      obtain ⟨W0, hW0⟩ : ∃ W0, W0 = wr := ⟨wr, rfl⟩
      subst hW0
      go_wp2
      go_loopw [4] (fun s wr => ∃ k : Nat, k ≤ i ∧ s = .int .i64 (k : Int) ∧ (∀ (j : Nat) (c : Em.Change), j < k → l[j]? = some c → c.long = false) ∧ Below w.heap.size w wr) (fun s _ => i - (intOf s).toNat)
      case atStart => exact ⟨0, by omega, rfl, fun j c hj => absurd hj (by omega), HO.out.2⟩
      case round =>
        obtain ⟨k, hk, rfl, hnl, hb⟩ := hrel
        by_cases hlt : k < i
        · have i0 : (0 : Int) ≤ (k : Int) := by omega
          have i1 : (k : Int) < (i : Int) := by omega
          obtain ⟨c, hc⟩ : ∃ c, l[k]? = some c := ⟨_, List.getElem?_eq_getElem (by rw [HN.out]; exact hlt)⟩
          obtain ⟨b, o, rfl, fb, lb, rg⟩ := H.out.at hc
          have z0 : wr.cell? ⟨b, o + k * 3, none⟩ = some (strOfB c.key) := (hb.cell (p := ⟨b, o + k * 3 + 0, none⟩) lb).trans (rg 0 _ rfl)
          have z1 : wr.cell? ⟨b, o + k * 3 + 1, none⟩ = some (strOfB c.value) := (hb.cell (p := ⟨b, o + k * 3 + 1, none⟩) lb).trans (rg 1 _ rfl)
          have HI := Lib.hid (And.intro hnl (And.intro hb hc))
          clear hnl hb hc rg
          cases hg : c.long
          · have hg' := Em.long_not hg
            have d1 : ¬ (64 : Int) < (c.key.length : Int) := by omega
            have d2 : ¬ (4096 : Int) < (c.value.length : Int) := by omega
            have HG := Lib.hid hg
            clear hg hg'
            go_wp2
            go_roundw
            case rel =>
              refine ⟨k + 1, by omega, by go_num, fun j c' hj hc' => ?_, HI.out.2.1⟩
              by_cases e : j = k
              · subst e
                rw [HI.out.2.2] at hc'
                cases hc'
                exact HG.out
              · exact HI.out.1 j c' (by omega) hc'
            case measure => simp [intOf]; omega
          · have HR := Lib.hid (show Em.right l = 3 by
              unfold Em.right
              rw [if_neg (by rw [HO.out.1]; decide)]
              by_cases h64 : 64 < l.length
              · rw [if_pos h64]
              · rw [if_neg h64, if_pos (List.any_eq_true.2 ⟨c, List.mem_of_getElem? HI.out.2.2, hg⟩)])
            by_cases h64 : 64 < c.key.length
            · have d1 : (64 : Int) < (c.key.length : Int) := by omega
              clear hg h64
              go_wp2
              go_ret
              exact ⟨by rw [HR.out]; rfl, HI.out.2.1⟩
            · have d1 : ¬ (64 : Int) < (c.key.length : Int) := by omega
              have d2 : (4096 : Int) < (c.value.length : Int) := by
                unfold Em.Change.long at hg
                simp at hg
                omega
              clear hg h64
              go_wp2
              go_ret
              exact ⟨by rw [HR.out]; rfl, HI.out.2.1⟩
        · obtain rfl : k = i := by omega
          have hnl : l.any Em.Change.long = false := any_not (fun j c hj => hnl j c (by have := (List.getElem?_eq_some_iff.1 hj).1; have := HN.out; omega) hj)
          by_cases h64 : 64 < k
          · have HR := Lib.hid (show Em.right l = 3 by unfold Em.right; rw [if_neg (by rw [HO.out.1]; decide), if_pos (by rw [HN.out]; exact h64)])
            have d1 : (64 : Int) < (k : Int) := by omega
            clear hnl h64
            go_wp2
            go_ret
            exact ⟨by rw [HR.out]; rfl, hb⟩
          · have HR := Lib.hid (show Em.right l = 0 by unfold Em.right; rw [if_neg (by rw [HO.out.1]; decide), if_neg (by rw [HN.out]; exact h64), if_neg (by rw [hnl]; decide)])
            have d1 : ¬ (64 : Int) < (k : Int) := by omega
            clear hnl h64
            go_wp2
            go_ret
            exact ⟨by rw [HR.out]; rfl, hb⟩

end Go.Proofs.YtgffifleflkjoaaGreat

namespace Go.Proofs.YtgffifleflkjoaaGreat
open Go.RowKit Dm

abbrev cellsC (l : List Em.Change) : List Value := l.flatMap fun c => [strOfB c.key, strOfB c.value, .bool c.gone]

theorem cellsC_len (l : List Em.Change) : (cellsC l).length = l.length * 3 := by
  induction l with
  | nil => rfl
  | cons c l ih => rw [cellsC, List.flatMap_cons, List.length_append, List.length_cons]; have := ih; simp only [cellsC] at this; rw [this]; simp; omega

theorem cellsC_at : ∀ (l : List Em.Change) (i : Nat) (c : Em.Change), l[i]? = some c → ∀ j v, [strOfB c.key, strOfB c.value, Value.bool c.gone][j]? = some v → (cellsC l)[i * 3 + j]? = some v := by
  intro l
  induction l with
  | nil => intro i c hi; simp at hi
  | cons x l ih =>
    intro i c hi j v hj
    rw [cellsC, List.flatMap_cons]
    cases i with
    | zero =>
      simp only [List.getElem?_cons_zero, Option.some.injEq] at hi
      subst hi
      have hlt : j < 3 := by
        have := (List.getElem?_eq_some_iff.1 hj).1
        simpa using this
      rw [List.getElem?_append_left (by simp; omega)]
      simpa using hj
    | succ i =>
      rw [List.getElem?_append_right (by simp; omega)]
      have := ih i c (by simpa using hi) j v hj
      rw [show (i + 1) * 3 + j - [strOfB x.key, strOfB x.value, Value.bool x.gone].length = i * 3 + j by simp; omega]
      exact this

/-- Changes in a row of the call's own. -/
def OwnC (w : World) (base : Nat) (v : Value) (l : List Em.Change) : Prop := w.ownsRow base tChange 3 v l.length (cellsC l)

theorem ownC_nil (w : World) (base : Nat) : OwnC w base (.slice none 0 0) [] := ⟨rfl, Or.inl ⟨rfl, rfl⟩⟩

theorem OwnC.at {w : World} {base : Nat} {v : Value} {l : List Em.Change} (h : OwnC w base v l) : ChangesAt w (fun k => base ≤ k) v l := by
  rcases h.2 with ⟨h1, h2⟩ | ⟨g, cap, cur, h1, h2, h3, h4, h5, h6, h7⟩
  · exact Or.inl ⟨⟨_, _, h1⟩, List.eq_nil_of_length_eq_zero h2⟩
  · refine Or.inr ⟨g, 0, cap, cur, tChange, (0, 0), h1, h4, by unfold maxLen at h5; omega, h2, h3, ?_⟩
    intro i c hi
    have hlt := (List.getElem?_eq_some_iff.1 hi).1
    have key : ∀ j v, j < 3 → [strOfB c.key, strOfB c.value, Value.bool c.gone][j]? = some v → cur[0 + i * 3 + j]? = some v := by
      intro j v hj hv
      have := cellsC_at l i c hi j v hv
      rw [← h7, List.getElem?_take, if_pos (by omega)] at this
      rw [Nat.zero_add]
      simpa using this
    exact ⟨key 0 _ (by omega) rfl, key 1 _ (by omega) rfl, key 2 _ (by omega) rfl⟩

theorem infoChg : (Tryz.prog.info? tChange).map (fun i => (i.zero, i.size, i.bytes)) = some (some (.agg #[.string ⟨#[]⟩, .string ⟨#[]⟩, .bool false]), 3, 40) := by kernel_rfl

abbrev tChanges : Nat := 34

theorem wpList_append_chg {ops : Array Oper} {rest : List Oper} {o : Oper} {a : Act} {w w0 : World} {Q : Exit → Act → World → Prop} (hgd : o.guard = none) (s x : Operand) (ho : o.op = .call { callee := .builtin .append, args := #[s, x], argTypes := #[tChanges, tChanges] })
    (base : Nat) (v : Value) (l : List Em.Change) (c : Em.Change) (hs : a.eval s = v) (hown : OwnC w base v l) (g cap : Nat) (hx : a.eval x = .slice (some ⟨g, 0, none⟩) 1 cap)
    (hrow : w.heap[g]? = some (.cells #[strOfB c.key, strOfB c.value, .bool c.gone] tChange (0, 0))) (hl : l.length ≤ 1000000) (hbase : base ≤ w.heap.size) (hB : Below base w0 w)
    (h : ∀ v' w', Hid (OwnC w' base v' (l ++ [c])) → Hid (Below base w0 w') → wpList Tryz.prog ops Q rest (a.put o.dst v') w') : wpList Tryz.prog ops Q (o :: rest) a w := by
  refine wpList_append_where hgd s x tChanges ho base tChange (.agg #[.string ⟨#[]⟩, .string ⟨#[]⟩, .bool false]) 3 40 Tryz.underlying34 infoChg rfl (by decide) v l.length (cellsC l) hs hown ⟨g, 0, none⟩ 1 cap [strOfB c.key, strOfB c.value, .bool c.gone] hx rfl ?_ ?_ (by unfold maxLen; omega) (by omega) hbase ?_
  · intro j u hu
    rw [addr_add, cell_of_row _ _ _ _ _ _ hrow]
    simpa using hu
  · intro u hu
    simp only [List.mem_cons, List.not_mem_nil, or_false] at hu
    rcases hu with rfl | rfl | rfl <;> rfl
  · intro v' w' h1 h2 h3
    refine h v' w' (Lib.hid ?_) (Lib.hid ?_)
    · have := h1.out
      show w'.ownsRow base tChange 3 v' (l ++ [c]).length (cellsC (l ++ [c]))
      rw [List.length_append, cellsC, List.flatMap_append]
      simpa using this
    · refine hB.grown h2.out hbase (fun k e => ?_)
      rcases hown.2 with ⟨h, _⟩ | ⟨g, cap, cur, h, hg, _⟩
      · rw [h] at e; cases e
      · rw [h] at e; cases e; exact hg

end Go.Proofs.YtgffifleflkjoaaGreat

namespace Go.Proofs.YtgffifleflkjoaaGreat
open Go.RowKit Dm

theorem made_get (n i : Nat) (h : i < n) : (madeCells #[Value.int .u8 0] n)[i]? = some (.int .u8 0) := by
  unfold madeCells
  simp [h, Nat.mod_one]

theorem mk_bytes (n : Nat) (hn : n ≤ 1000000) (W : World) : (Instr.makeSlice tBytes (.int .i64 n) (.int .i64 n)).run Tryz.prog W = .ok (.slice (some ⟨W.heap.size, 0, none⟩) n n) (W.alloc (.cells (madeCells #[.int .u8 0] n) tByte)) := by
  obtain ⟨i0, hi0, hz0, hz1, hz2⟩ := info_parts infoByte
  have := run_make W tBytes tByte i0 (.int .u8 0) Tryz.underlying31 hi0 hz0 .i64 .i64 n n (by omega) (Int.le_refl _) (by rw [hz2]; omega) (by omega)
  simp only [Int.toNat_natCast, hz1, Nat.mul_one] at this
  exact this

theorem made_row {w : World} {F : Nat → Prop} {g n : Nat} {t : TypeId} {fr : Nat × Nat} (hr : w.heap[g]? = some (.cells (madeCells #[.int .u8 0] n) t fr)) (hF : F g) (hn : n ≤ 1000000) : BytesAt w.heap F (.slice (some ⟨g, 0, none⟩) n n) (List.replicate n 0) := by
  refine Or.inr ⟨g, 0, n, _, t, fr, by simp, by simp, by omega, hF, hr, ?_⟩
  intro i x hi
  obtain ⟨h1, h2⟩ := List.getElem?_eq_some_iff.1 hi
  have : x = 0 := by rw [← h2]; simp
  subst this
  rw [Nat.zero_add, made_get n i (by simpa using h1)]
  rfl

set_option maxRecDepth 100000 in
theorem bounds_out (w : World) (mo wh : Int) (h : mo < -1 ∨ 1 < mo ∨ wh < 0 ∨ 3 < wh) : Calls Tryz.prog 3 #[.int .i64 mo, .int .i64 wh] w fun e w' => e = .returned (.bool true) ∧ Below w.heap.size w w' := by
  have WC := Lib.hid (works19_c w)
  by_cases h1 : mo < -1
  · have g1 : decide (mo < -1) = true := by simpa using h1
    clear h
    go_enter Tryz.func3, Tryz.ntmps3
    go_wp2_with (go_at_call 8; refine WC.out.mono ?_; rintro e w' ⟨rfl, hb⟩)
    go_ret
    exact ⟨rfl, hb⟩
  · have g1 : decide (mo < -1) = false := by simpa using h1
    by_cases h2 : 1 < mo
    · have g2 : decide (1 < mo) = true := by simpa using h2
      clear h
      go_enter Tryz.func3, Tryz.ntmps3
      go_wp2_with (go_at_call 8; refine WC.out.mono ?_; rintro e w' ⟨rfl, hb⟩)
      go_ret
      exact ⟨rfl, hb⟩
    · have g2 : decide (1 < mo) = false := by simpa using h2
      by_cases h3 : wh < 0
      · have g3 : decide (wh < 0) = true := by simpa using h3
        clear h
        go_enter Tryz.func3, Tryz.ntmps3
        go_wp2_with (go_at_call 8; refine WC.out.mono ?_; rintro e w' ⟨rfl, hb⟩)
        go_ret
        exact ⟨rfl, hb⟩
      · have g3 : decide (wh < 0) = false := by simpa using h3
        have h4 : 3 < wh := by omega
        have g4 : decide (3 < wh) = true := by simpa using h4
        clear h
        go_enter Tryz.func3, Tryz.ntmps3
        go_wp2_with (go_at_call 8; refine WC.out.mono ?_; rintro e w' ⟨rfl, hb⟩)
        go_ret
        exact ⟨rfl, hb⟩

end Go.Proofs.YtgffifleflkjoaaGreat

namespace Go.Proofs.YtgffifleflkjoaaGreat
open Go.RowKit Dm

set_option maxRecDepth 100000 in
set_option maxHeartbeats 4000000 in
theorem bounds_key (w : World) {mo : Int} {n : Nat} (hn : 64 + mo = n) (hm1 : -1 ≤ mo) (hm2 : mo ≤ 1) (hd : Em.doneErr (.map []) (Em.zkey n) = if 0 < mo then 3 else 0) (hl : mo ≤ 0 → (Em.batchBody (Em.zkey n)).length ≤ 8192) :
    Calls Tryz.prog 3 #[.int .i64 mo, .int .i64 0] w fun e w' => e = .returned (.bool true) ∧ Below w.heap.size w w' := by
  have g1 : decide (mo < -1) = false := by simp; omega
  have g2 : decide (1 < mo) = false := by simp; omega
  have g3 : IntKind.i64.wrap (64 + mo) = (n : Int) := by rw [← hn]; exact IntWalk.i64_in _ (by omega)
  have hmk := fun W => mk_bytes n (by omega) W
  have NW := Lib.hid (new_c 0 1048576 w rfl)
  go_enter Tryz.func3, Tryz.ntmps3
  go_upto_region 4 with (go_at_call 9; refine NW.out.mono ?_; rintro e w1 ⟨p, m, rfl, hb1, hp, hm, x1⟩)
  have lx := x1.lt
  have x1 : DiskAt w1.heap p m (Dm.new 0 1048576) (fun k => k < w1.heap.size ∧ k ≠ p ∧ k ≠ m) := x1.weak (fun k hk hl => ⟨hl, hk.2⟩) (fun h => h.2.1 rfl) (fun h => h.2.2 rfl)
  obtain ⟨q1, q2, q3, q4, q5⟩ := Em.begun_fine (s := 0) (room := 1048576) (by decide)
  have OC := Lib.hid (open_c (ts := fun _ => Em.T.none) x1 (by show 0 ≤ _; decide) (fun i h => h.1) (fun k _ => reads_nil k) rfl)
  have H1 := Lib.hid (And.intro hb1 (And.intro hp hm))
  clear hb1 hp hm x1 lx NW
  go_upto_region 5 with (go_at_call 10; refine OC.out.mono ?_; rintro e w2 ⟨m2, o2, _⟩; obtain ⟨pl, F2, rfl, x2, hpl, hF2, _⟩ := o2 q1)
  have H2 := Lib.hid (And.intro (below_pm H1.out.1 m2 H1.out.2.1 H1.out.2.2) (show w.heap.size ≤ pl from Nat.le_trans H1.out.1.size hpl))
  clear m2 o2 hpl hF2 OC
  obtain ⟨E0, hE0⟩ : ∃ E0, (Em.begun (Dm.new 0 1048576)).1 = E0 := ⟨_, rfl⟩
  rw [show ((1048576 : Nat) : Int) = 1048576 from rfl] at q2 q3 q4 q5
  rw [hE0] at x2 q2 q3 q4 q5
  clear hE0 q1
  have b1 : Below w2.heap.size w2 (w2.alloc (.cells (madeCells #[.int .u8 0] n) tByte)) := (Below.refl _ _).alloc (Nat.le_refl _) _
  have hcv := run_string_of (made_row (heap_alloc_last w2 (.cells (madeCells #[.int .u8 0] n) tByte)) (F := fun _ => True) trivial (by omega))
  obtain ⟨w2b, h2b⟩ : ∃ W, w2.alloc (.cells (madeCells #[.int .u8 0] n) tByte) = W := ⟨_, rfl⟩
  have b2 : Below w2b.heap.size w2b (w2b.alloc (.cells #[.string ⟨Array.replicate n (0 : UInt8)⟩, .string ⟨#[]⟩, .bool false] tChange)) := (Below.refl _ _).alloc (Nat.le_refl _) _
  have x2b := log_below x2 b1
  rw [h2b] at x2b b1 hcv
  have hw2 : w2b.heap.size = w2.heap.size + 1 := by rw [← h2b]; simp
  have CC := commit_c (log_below x2b b2) (by rw [q2.disk.waits]; decide) (changes_row (heap_alloc_last w2b (.cells #[.string ⟨Array.replicate n (0 : UInt8)⟩, .string ⟨#[]⟩, .bool false] tChange)) (F := fun _ => True) (l := Em.zkey n) (cap := 1) trivial (by simp [Em.zkey]) (by decide) (by simp [Em.zkey])) (by simp [Em.zkey]) (by intro c hc; simp [Em.zkey] at hc; subst hc; simp; omega)
  rw [show (Em.zkey n).length = 1 from rfl, hw2] at CC
  have CC := Lib.hid CC
  have HB := Lib.hid (below_more (below_more H2.out.1 b1) b2)
  have hcode := Em.commit_code (l := Em.zkey n) (c := if 0 < mo then 3 else 0) q2 (by rw [q3]; exact hd) (fun h => hl (by by_cases q : 0 < mo; (rw [if_pos q] at h; cases h); omega)) (by omega) (by omega)
  generalize Em.E.commit E0 (Em.zkey n) = R1 at *
  clear x2 x2b b1 b2 hd hl
  by_cases hm : 0 < mo
  all_goals
    first
      | rw [if_pos hm] at hcode
      | rw [if_neg hm] at hcode
    go_wp2_with (first
      | (go_at_call 11; refine CC.out.mono ?_; rintro e w3 ⟨rfl, m3, x3⟩
         have B3 := below_plm HB.out m3 H2.out.2 H1.out.2.1 H1.out.2.2
         have WC := Lib.hid (works19_c w3)
         clear m3 x3)
      | (go_at_call 12; refine (num19_c _ _).mono ?_; rintro e w' ⟨rfl, rfl⟩)
      | (go_at_call 8; refine WC.out.mono ?_; rintro e w4 ⟨rfl, b4⟩))
    go_ret
    exact ⟨rfl, below_more B3 b4⟩

set_option maxRecDepth 100000 in
set_option maxHeartbeats 4000000 in
theorem bounds_val (w : World) {mo : Int} {n : Nat} (hn : 4096 + mo = n) (hm1 : -1 ≤ mo) (hm2 : mo ≤ 1) (hd : Em.doneErr (.map []) (Em.zval n) = if 0 < mo then 3 else 0) (hl : mo ≤ 0 → (Em.batchBody (Em.zval n)).length ≤ 8192) :
    Calls Tryz.prog 3 #[.int .i64 mo, .int .i64 1] w fun e w' => e = .returned (.bool true) ∧ Below w.heap.size w w' := by
  have g1 : decide (mo < -1) = false := by simp; omega
  have g2 : decide (1 < mo) = false := by simp; omega
  have g3 : IntKind.i64.wrap (4096 + mo) = (n : Int) := by rw [← hn]; exact IntWalk.i64_in _ (by omega)
  have hmk := fun W => mk_bytes n (by omega) W
  have NW := Lib.hid (new_c 0 1048576 w rfl)
  go_enter Tryz.func3, Tryz.ntmps3
  go_upto_region 4 with (go_at_call 9; refine NW.out.mono ?_; rintro e w1 ⟨p, m, rfl, hb1, hp, hm, x1⟩)
  have lx := x1.lt
  have x1 : DiskAt w1.heap p m (Dm.new 0 1048576) (fun k => k < w1.heap.size ∧ k ≠ p ∧ k ≠ m) := x1.weak (fun k hk hl => ⟨hl, hk.2⟩) (fun h => h.2.1 rfl) (fun h => h.2.2 rfl)
  obtain ⟨q1, q2, q3, q4, q5⟩ := Em.begun_fine (s := 0) (room := 1048576) (by decide)
  have OC := Lib.hid (open_c (ts := fun _ => Em.T.none) x1 (by show 0 ≤ _; decide) (fun i h => h.1) (fun k _ => reads_nil k) rfl)
  have H1 := Lib.hid (And.intro hb1 (And.intro hp hm))
  clear hb1 hp hm x1 lx NW
  go_upto_region 5 with (go_at_call 10; refine OC.out.mono ?_; rintro e w2 ⟨m2, o2, _⟩; obtain ⟨pl, F2, rfl, x2, hpl, hF2, _⟩ := o2 q1)
  have H2 := Lib.hid (And.intro (below_pm H1.out.1 m2 H1.out.2.1 H1.out.2.2) (show w.heap.size ≤ pl from Nat.le_trans H1.out.1.size hpl))
  clear m2 o2 hpl hF2 OC
  obtain ⟨E0, hE0⟩ : ∃ E0, (Em.begun (Dm.new 0 1048576)).1 = E0 := ⟨_, rfl⟩
  rw [show ((1048576 : Nat) : Int) = 1048576 from rfl] at q2 q3 q4 q5
  rw [hE0] at x2 q2 q3 q4 q5
  clear hE0 q1
  have b1 : Below w2.heap.size w2 (w2.alloc (.cells (madeCells #[.int .u8 0] n) tByte)) := (Below.refl _ _).alloc (Nat.le_refl _) _
  have hcv := run_string_of (made_row (heap_alloc_last w2 (.cells (madeCells #[.int .u8 0] n) tByte)) (F := fun _ => True) trivial (by omega))
  obtain ⟨w2b, h2b⟩ : ∃ W, w2.alloc (.cells (madeCells #[.int .u8 0] n) tByte) = W := ⟨_, rfl⟩
  have b2 : Below w2b.heap.size w2b (w2b.alloc (.cells #[.string ⟨#[97]⟩, .string ⟨Array.replicate n (0 : UInt8)⟩, .bool false] tChange)) := (Below.refl _ _).alloc (Nat.le_refl _) _
  have x2b := log_below x2 b1
  rw [h2b] at x2b b1 hcv
  have hw2 : w2b.heap.size = w2.heap.size + 1 := by rw [← h2b]; simp
  have CC := commit_c (log_below x2b b2) (by rw [q2.disk.waits]; decide) (changes_row (heap_alloc_last w2b (.cells #[.string ⟨#[97]⟩, .string ⟨Array.replicate n (0 : UInt8)⟩, .bool false] tChange)) (F := fun _ => True) (l := Em.zval n) (cap := 1) trivial (by simp [Em.zval]) (by decide) (by simp [Em.zval])) (by simp [Em.zval]) (by intro c hc; simp [Em.zval] at hc; subst hc; simp; omega)
  rw [show (Em.zval n).length = 1 from rfl, hw2] at CC
  have CC := Lib.hid CC
  have HB := Lib.hid (below_more (below_more H2.out.1 b1) b2)
  have hcode := Em.commit_code (l := Em.zval n) (c := if 0 < mo then 3 else 0) q2 (by rw [q3]; exact hd) (fun h => hl (by by_cases q : 0 < mo; (rw [if_pos q] at h; cases h); omega)) (by omega) (by omega)
  generalize Em.E.commit E0 (Em.zval n) = R1 at *
  clear x2 x2b b1 b2 hd hl
  by_cases hm : 0 < mo
  all_goals
    first
      | rw [if_pos hm] at hcode
      | rw [if_neg hm] at hcode
    go_wp2_with (first
      | (go_at_call 11; refine CC.out.mono ?_; rintro e w3 ⟨rfl, m3, x3⟩
         have B3 := below_plm HB.out m3 H2.out.2 H1.out.2.1 H1.out.2.2
         have WC := Lib.hid (works19_c w3)
         clear m3 x3)
      | (go_at_call 12; refine (num19_c _ _).mono ?_; rintro e w' ⟨rfl, rfl⟩)
      | (go_at_call 8; refine WC.out.mono ?_; rintro e w4 ⟨rfl, b4⟩))
    go_ret
    exact ⟨rfl, below_more B3 b4⟩

end Go.Proofs.YtgffifleflkjoaaGreat

namespace Go.Proofs.YtgffifleflkjoaaGreat
open Go.RowKit Dm

theorem OwnC.later {w w' : World} {base : Nat} {v : Value} {l : List Em.Change} (h : OwnC w base v l) (hb : Below w.heap.size w w') : OwnC w' base v l := by
  refine ⟨h.1, ?_⟩
  rcases h.2 with h1 | ⟨g, cap, cur, h1, h2, h3, h4, h5, h6, h7⟩
  · exact Or.inl h1
  · exact Or.inr ⟨g, cap, cur, h1, h2, (hb.block g (lt_of_row h3)).trans h3, h4, h5, h6, h7⟩

theorem many_succ (i : Nat) : Em.many (i + 1) = Em.many i ++ [⟨[97], [120], false⟩] := by unfold Em.many; rw [List.replicate_succ']

set_option maxRecDepth 100000 in
set_option maxHeartbeats 4000000 in
theorem bounds_many (w : World) {mo : Int} {n : Nat} (hn : 64 + mo = n) (hm1 : -1 ≤ mo) (hm2 : mo ≤ 1) (hd : Em.doneErr (.map []) (Em.many n) = if 0 < mo then 3 else 0) (hl : mo ≤ 0 → (Em.batchBody (Em.many n)).length ≤ 8192) :
    Calls Tryz.prog 3 #[.int .i64 mo, .int .i64 2] w fun e w' => e = .returned (.bool true) ∧ Below w.heap.size w w' := by
  have g1 : decide (mo < -1) = false := by simp; omega
  have g2 : decide (1 < mo) = false := by simp; omega
  have g3 : IntKind.i64.wrap (64 + mo) = (n : Int) := by rw [← hn]; exact IntWalk.i64_in _ (by omega)
  have NW := Lib.hid (new_c 0 1048576 w rfl)
  go_enter Tryz.func3, Tryz.ntmps3
  go_upto_region 4 with (go_at_call 9; refine NW.out.mono ?_; rintro e w1 ⟨p, m, rfl, hb1, hp, hm, x1⟩)
  have lx := x1.lt
  have x1 : DiskAt w1.heap p m (Dm.new 0 1048576) (fun k => k < w1.heap.size ∧ k ≠ p ∧ k ≠ m) := x1.weak (fun k hk hl => ⟨hl, hk.2⟩) (fun h => h.2.1 rfl) (fun h => h.2.2 rfl)
  obtain ⟨q1, q2, q3, q4, q5⟩ := Em.begun_fine (s := 0) (room := 1048576) (by decide)
  have OC := Lib.hid (open_c (ts := fun _ => Em.T.none) x1 (by show 0 ≤ _; decide) (fun i h => h.1) (fun k _ => reads_nil k) rfl)
  have H1 := Lib.hid (And.intro hb1 (And.intro hp hm))
  clear hb1 hp hm x1 lx NW
  go_upto_region 5 with (go_at_call 10; refine OC.out.mono ?_; rintro e w2 ⟨m2, o2, _⟩; obtain ⟨pl, F2, rfl, x2, hpl, hF2, _⟩ := o2 q1)
  have H2 := Lib.hid (And.intro (below_pm H1.out.1 m2 H1.out.2.1 H1.out.2.2) (show w.heap.size ≤ pl from Nat.le_trans H1.out.1.size hpl))
  clear m2 o2 hpl hF2 OC
  obtain ⟨E0, hE0⟩ : ∃ E0, (Em.begun (Dm.new 0 1048576)).1 = E0 := ⟨_, rfl⟩
  rw [show ((1048576 : Nat) : Int) = 1048576 from rfl] at q2 q3 q4 q5
  rw [hE0] at x2 q2 q3 q4 q5
  clear hE0 q1
  have hcode := Em.commit_code (l := Em.many n) (c := if 0 < mo then 3 else 0) q2 (by rw [q3]; exact hd) (fun h => hl (by by_cases q : 0 < mo; (rw [if_pos q] at h; cases h); omega)) (by omega) (by omega)
  have X2 := Lib.hid x2
  have Q2 := Lib.hid q2
  clear x2 hd hl q2
  by_cases hm : 0 < mo
  all_goals
    first
      | rw [if_pos hm] at hcode
      | rw [if_neg hm] at hcode
    go_wp2
    go_loopw [11, 12] (fun v s wr => ∃ i : Nat, i ≤ n ∧ s = .int .i64 (i : Int) ∧ OwnC wr w2.heap.size v (Em.many i) ∧ Below w2.heap.size w2 wr) (fun _ s _ => n - (intOf s).toNat)
    case atStart => exact ⟨0, by omega, rfl, ownC_nil _ _, Below.refl _ _⟩
    case round =>
      obtain ⟨i, hi, rfl, hown, hb⟩ := hrel
      by_cases hlt : i < n
      · have i1 : (i : Int) < (n : Int) := by omega
        have i2 : IntKind.i64.wrap ((i : Int) + 1) = ((i + 1 : Nat) : Int) := IntWalk.i64_in _ (by omega)
        have ba : ∀ c, Below wr.heap.size wr (wr.alloc c) := fun c => (Below.refl _ _).alloc (Nat.le_refl _) c
        have HI := Lib.hid (And.intro hown hb)
        clear hown hb
        go_wp2_with (at_builtin; go_loud (refine wpList_append_chg rfl (.tmp 122) (.tmp 124) rfl w2.heap.size _ (Em.many i) ⟨[97], [120], false⟩ rfl (HI.out.1.later (ba _)) wr.heap.size 1 rfl (heap_alloc_last wr _) (by simp [Em.many]; omega) (by have := HI.out.2.size; simp; omega) (HI.out.2.trans ((ba _).mono HI.out.2.size)) ?_); intro v' w' h1 h2)
        go_roundw
        case rel => exact ⟨i + 1, by omega, by go_num, by rw [many_succ]; exact h1.out, h2.out⟩
        case measure => simp [intOf]; omega
      · obtain rfl : i = n := by omega
        have i1 : ¬ (i : Int) < (i : Int) := by omega
        have HI := Lib.hid (And.intro hown hb)
        have CC := Lib.hid (commit_c (log_below X2.out hb) (by rw [Q2.out.disk.waits]; decide) hown.at (by simp [Em.many]; omega) (by intro c hc; simp [Em.many] at hc; obtain ⟨_, rfl⟩ := hc; decide))
        have HB := Lib.hid (below_more H2.out.1 hb)
        clear hown hb
        generalize Em.E.commit E0 (Em.many i) = R1 at *
        go_wp2_with (first
          | (go_at_call 11; refine CC.out.mono ?_; rintro e w3 ⟨rfl, m3, x3⟩
             have B3 := below_plm HB.out m3 H2.out.2 H1.out.2.1 H1.out.2.2
             have WC := Lib.hid (works19_c w3)
             clear m3 x3)
          | (go_at_call 12; refine (num19_c _ _).mono ?_; rintro e w' ⟨rfl, rfl⟩)
          | (go_at_call 8; refine WC.out.mono ?_; rintro e w4 ⟨rfl, b4⟩))
        go_ret
        exact ⟨rfl, below_more B3 b4⟩

end Go.Proofs.YtgffifleflkjoaaGreat

namespace Go.Proofs.YtgffifleflkjoaaGreat
open Go.RowKit Dm

abbrev tRow : Nat := 51
abbrev tRowL : Nat := 44

theorem infoRow : (Tryz.prog.info? tRow).map (·.size) = some 2 := by kernel_rfl
theorem infoRow3 : (Tryz.prog.info? tRow).map (fun i => (i.zero, i.size, i.bytes)) = some (some (.agg #[.string ⟨#[]⟩, .string ⟨#[]⟩]), 2, 32) := by kernel_rfl

/-- Rows in memory. -/
def PairsAt (w : World) (F : Nat → Prop) (v : Value) (l : Em.Pairs) : Prop :=
  (v = .slice none 0 0 ∧ l = []) ∨ ∃ (b o cap : Nat) (cs : Array Value) (t : TypeId) (fr : Nat × Nat), v = .slice (some ⟨b, o, none⟩) l.length cap ∧ l.length ≤ cap ∧ cap ≤ 9223372036854775807 ∧ F b ∧ w.heap[b]? = some (.cells cs t fr) ∧
    ∀ (i : Nat) (r : Em.Bytes × Em.Bytes), l[i]? = some r → cs[o + i * 2]? = some (strOfB r.1) ∧ cs[o + i * 2 + 1]? = some (strOfB r.2)

theorem PairsAt.slice {w : World} {F : Nat → Prop} {v : Value} {l : Em.Pairs} (h : PairsAt w F v l) : ∃ a c, v = .slice a l.length c := by
  rcases h with ⟨rfl, rfl⟩ | ⟨b, o, cap, cs, t, fr, rfl, _⟩
  · exact ⟨_, _, rfl⟩
  · exact ⟨_, _, rfl⟩

theorem PairsAt.later {w w' : World} {F : Nat → Prop} {v : Value} {l : Em.Pairs} (h : PairsAt w F v l) (hb : Below w.heap.size w w') : PairsAt w' F v l := by
  rcases h with h | ⟨b, o, cap, cs, t, fr, h1, h2, h3, h4, h5, h6⟩
  · exact Or.inl h
  · exact Or.inr ⟨b, o, cap, cs, t, fr, h1, h2, h3, h4, (hb.block b (lt_of_row h5)).trans h5, h6⟩

theorem PairsAt.at {w : World} {F : Nat → Prop} {a : Option Addr} {n cap : Nat} {l : Em.Pairs} (h : PairsAt w F (.slice a n cap) l) {i : Nat} {r : Em.Bytes × Em.Bytes} (hi : l[i]? = some r) :
    ∃ b o, a = some ⟨b, o, none⟩ ∧ F b ∧ b < w.heap.size ∧ w.rangeAt b (o + i * 2) [strOfB r.1, strOfB r.2] := by
  rcases h with ⟨_, rfl⟩ | ⟨b, o, cap', cs, t, fr, h1, h2, h3, h4, h5, h6⟩
  · simp at hi
  · cases h1
    obtain ⟨g1, g2⟩ := h6 i r hi
    refine ⟨b, o, rfl, h4, lt_of_row h5, fun j v hj => ?_⟩
    match j, hj with
    | 0, hj => cases hj; exact (cell_of_row _ _ _ _ _ _ h5).trans g1
    | 1, hj => cases hj; exact (cell_of_row _ _ _ _ _ _ h5).trans g2
    | j + 2, hj => simp at hj

abbrev cellsP (l : Em.Pairs) : List Value := l.flatMap fun r => [strOfB r.1, strOfB r.2]

theorem cellsP_at : ∀ (l : Em.Pairs) (i : Nat) (r : Em.Bytes × Em.Bytes), l[i]? = some r → ∀ j v, [strOfB r.1, strOfB r.2][j]? = some v → (cellsP l)[i * 2 + j]? = some v := by
  intro l
  induction l with
  | nil => intro i c hi; simp at hi
  | cons x l ih =>
    intro i c hi j v hj
    rw [cellsP, List.flatMap_cons]
    cases i with
    | zero =>
      simp only [List.getElem?_cons_zero, Option.some.injEq] at hi
      subst hi
      have hlt : j < 2 := by
        have := (List.getElem?_eq_some_iff.1 hj).1
        simpa using this
      rw [List.getElem?_append_left (by simp; omega)]
      simpa using hj
    | succ i =>
      rw [List.getElem?_append_right (by simp; omega)]
      have := ih i c (by simpa using hi) j v hj
      rw [show (i + 1) * 2 + j - [strOfB x.1, strOfB x.2].length = i * 2 + j by simp; omega]
      exact this

def OwnP (w : World) (base : Nat) (v : Value) (l : Em.Pairs) : Prop := w.ownsRow base tRow 2 v l.length (cellsP l)

theorem ownP_nil (w : World) (base : Nat) : OwnP w base (.slice none 0 0) [] := ⟨rfl, Or.inl ⟨rfl, rfl⟩⟩

theorem OwnP.at {w : World} {base : Nat} {v : Value} {l : Em.Pairs} (h : OwnP w base v l) : PairsAt w (fun k => base ≤ k) v l := by
  rcases h.2 with ⟨h1, h2⟩ | ⟨g, cap, cur, h1, h2, h3, h4, h5, h6, h7⟩
  · exact Or.inl ⟨h1, List.eq_nil_of_length_eq_zero h2⟩
  · refine Or.inr ⟨g, 0, cap, cur, tRow, (0, 0), h1, h4, by unfold maxLen at h5; omega, h2, h3, ?_⟩
    intro i c hi
    have hlt := (List.getElem?_eq_some_iff.1 hi).1
    have key : ∀ j v, j < 2 → [strOfB c.1, strOfB c.2][j]? = some v → cur[0 + i * 2 + j]? = some v := by
      intro j v hj hv
      have := cellsP_at l i c hi j v hv
      rw [← h7, List.getElem?_take, if_pos (by omega)] at this
      rw [Nat.zero_add]
      simpa using this
    exact ⟨key 0 _ (by omega) rfl, key 1 _ (by omega) rfl⟩

theorem OwnP.later {w w' : World} {base : Nat} {v : Value} {l : Em.Pairs} (h : OwnP w base v l) (hb : Below w.heap.size w w') : OwnP w' base v l := by
  refine ⟨h.1, ?_⟩
  rcases h.2 with h1 | ⟨g, cap, cur, h1, h2, h3, h4, h5, h6, h7⟩
  · exact Or.inl h1
  · exact Or.inr ⟨g, cap, cur, h1, h2, (hb.block g (lt_of_row h3)).trans h3, h4, h5, h6, h7⟩

theorem wpList_append_pair {ops : Array Oper} {rest : List Oper} {o : Oper} {a : Act} {w w0 : World} {Q : Exit → Act → World → Prop} (hgd : o.guard = none) (s x : Operand) (ho : o.op = .call { callee := .builtin .append, args := #[s, x], argTypes := #[tRowL, tRowL] })
    (base : Nat) (v : Value) (l : Em.Pairs) (r : Em.Bytes × Em.Bytes) (hs : a.eval s = v) (hown : OwnP w base v l) (g cap : Nat) (hx : a.eval x = .slice (some ⟨g, 0, none⟩) 1 cap)
    (hrow : w.heap[g]? = some (.cells #[strOfB r.1, strOfB r.2] tRow (0, 0))) (hl : l.length ≤ 1000000000) (hbase : base ≤ w.heap.size) (hB : Below base w0 w)
    (h : ∀ v' w', Hid (OwnP w' base v' (l ++ [r])) → Hid (Below base w0 w') → wpList Tryz.prog ops Q rest (a.put o.dst v') w') : wpList Tryz.prog ops Q (o :: rest) a w := by
  refine wpList_append_where hgd s x tRowL ho base tRow (.agg #[.string ⟨#[]⟩, .string ⟨#[]⟩]) 2 32 Tryz.underlying44 infoRow3 rfl (by decide) v l.length (cellsP l) hs hown ⟨g, 0, none⟩ 1 cap [strOfB r.1, strOfB r.2] hx rfl ?_ ?_ (by unfold maxLen; omega) (by omega) hbase ?_
  · intro j u hu
    rw [addr_add, cell_of_row _ _ _ _ _ _ hrow]
    simpa using hu
  · intro u hu
    simp only [List.mem_cons, List.not_mem_nil, or_false] at hu
    rcases hu with rfl | rfl <;> rfl
  · intro v' w' h1 h2 h3
    refine h v' w' (Lib.hid ?_) (Lib.hid ?_)
    · have := h1.out
      show w'.ownsRow base tRow 2 v' (l ++ [r]).length (cellsP (l ++ [r]))
      rw [List.length_append, cellsP, List.flatMap_append]
      simpa using this
    · refine hB.grown h2.out hbase (fun k e => ?_)
      rcases hown.2 with ⟨h, _⟩ | ⟨g, cap, cur, h, hg, _⟩
      · rw [h] at e; cases e
      · rw [h] at e; cases e; exact hg

end Go.Proofs.YtgffifleflkjoaaGreat

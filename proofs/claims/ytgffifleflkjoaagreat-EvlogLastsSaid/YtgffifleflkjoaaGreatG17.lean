/-
  evlog: a head with its rows.
  evlog: steps on a disk, one after another, as long as none answers an error.
  A region that draws its order: operations that read no memory may be taken first, whatever else may come.
  evlog: what puts, what empties a tape.
  evlog: a tape is written, or written anew.
-/
import Derived.Test.YtgffifleflkjoaaGreatG03
import Derived.Test.YtgffifleflkjoaaGreatG08
import Derived.Test.YtgffifleflkjoaaGreatG16

namespace Go.Proofs.YtgffifleflkjoaaGreat
open Go.RowKit

theorem rowOf_take {D : Em.Rows} {ks : List (List UInt8)} {i : Nat} {k : List UInt8} (h : ks[i]? = some k) : (ks.take (i + 1)).flatMap (Em.rowOf D) = (ks.take i).flatMap (Em.rowOf D) ++ Em.rowOf D k := by
  rw [List.take_add_one, h]
  simp

theorem RowsV.sorted {w : World} {v : Value} {D : Em.Rows} (h : RowsV w v D) (hs : Maps.size D ≤ 1000000) : Calls Tryz.prog 44 #[v] w (SortedK w D) := by
  rcases h with ⟨rfl, rfl⟩ | ⟨m, n, rfl, h⟩
  · exact sortedNil_c w
  · exact sorted_c h hs

set_option maxRecDepth 100000 in
set_option maxHeartbeats 4000000 in
theorem folded_c {w : World} {v : Value} {D : Em.Rows} {gen : Nat} (h : RowsV w v D) (hD : Em.RowsOk D) (hs : Maps.size D ≤ 256) (hgen : gen ≤ 2147483647) : Calls Tryz.prog 70 #[.int .i64 gen, v] w (GivesB w (Em.folded gen D)) := by
  obtain ⟨mo, rfl⟩ : ∃ mo, v = .map mo := by rcases h with ⟨rfl, _⟩ | ⟨m, n, rfl, _⟩ <;> exact ⟨_, rfl⟩
  have eg1 := enters_of Tryz.func116 (by kernel_rfl) rfl
  have eg2 := enters_of Tryz.func118 (by kernel_rfl) rfl
  obtain ⟨W0, hW0⟩ : ∃ W0, (w.alloc (.cells #[.int .i64 gen] 2)).alloc (.cells #[.map mo] 66) = W0 := ⟨_, rfl⟩
  have z0 : W0.heap.size = w.heap.size + 2 := by rw [← hW0]; simp
  have B0 : Below w.heap.size w W0 := by rw [← hW0]; exact ((Below.refl _ _).alloc (Nat.le_refl _) _).alloc (by simp) _
  have k0 : W0.cell? ⟨w.heap.size, 0, none⟩ = some (.int .i64 gen) := by rw [← hW0]; exact row_cell (heap_past (by simp) (heap_alloc_last w _)) rfl
  have k1 : W0.cell? ⟨w.heap.size + 1, 0, none⟩ = some (.map mo) := by rw [← hW0]; exact row_cell (heap_at (w := w.alloc _) _ (by simp)) rfl
  have h0 := h.later B0
  have FC := Lib.hid (frame_c (w := W0) (fn := 116) (lb := #[.pointer (some ⟨w.heap.size, 0, none⟩), .pointer (some ⟨w.heap.size + 1, 0, none⟩)]) (body := Wm.wnum 1 ++ Wm.wnum gen ++ Wm.wnum (Maps.size D)) eg1
    (by have := (Em.wnum_len 1).1; have := (Em.wnum_len gen).1; have := (Em.wnum_len (Maps.size D)).1; rw [List.length_append, List.length_append]; omega)
    (fun W hb q1 => headIn_c q1 ((hb.cell (p := ⟨w.heap.size, 0, none⟩) (by simp; omega)).trans k0) ((hb.cell (p := ⟨w.heap.size + 1, 0, none⟩) (by simp; omega)).trans k1) (h0.later hb) (by omega) (by omega)))
  have H := Lib.hid (And.intro h0 (And.intro hD (And.intro hs (And.intro B0 (And.intro z0 k1)))))
  have EG := Lib.hid eg2
  have lens : ∀ i, (Em.framed (Wm.wnum 1 ++ Wm.wnum gen ++ Wm.wnum (Maps.size D)) ++ ((Em.skeys D).take i).flatMap (Em.rowOf D)).length ≤ 2300000 := fun i => by
    have h1 := Em.framed_len (Wm.wnum 1 ++ Wm.wnum gen ++ Wm.wnum (Maps.size D))
    have h2 := Em.flatMap_le (Em.rowOf D) 8205 ((Em.skeys D).take i) (fun k _ => Em.framed_len _)
    have h3 : ((Em.skeys D).take i).length * 8205 ≤ 256 * 8205 := Nat.mul_le_mul_right _ (by rw [List.length_take, Em.skeys_len]; omega)
    rw [List.length_append]
    omega
  have LN := Lib.hid lens
  have HF := Lib.hid (show Em.folded gen D = Em.framed (Wm.wnum 1 ++ Wm.wnum gen ++ Wm.wnum (Maps.size D)) ++ (Em.skeys D).flatMap (Em.rowOf D) from rfl)
  have HW0 := Lib.hid hW0
  clear h hD hs k0 k1 h0 eg1 eg2 lens B0
  have hmf : ∀ (fn : Fn) (first cap : Array Value) (w : World), (Instr.makeFunc fn first cap).run Tryz.prog w = .ok (.func fn first cap) w := fun _ _ _ _ => rfl
  generalize Em.framed (Wm.wnum 1 ++ Wm.wnum gen ++ Wm.wnum (Maps.size D)) = head at *
  go_enter Tryz.func70, Tryz.ntmps70
  go_wp2_with (first
    | (go_at_call 115; refine FC.out.mono ?_; rintro e w1 ⟨v1, rfl, o1, b1⟩
       have c1 : w1.cell? ⟨w.heap.size + 1, 0, none⟩ = some (.map mo) := (b1.cell (p := ⟨w.heap.size + 1, 0, none⟩) (by simp; have := H.out.2.2.2.2.1; omega)).trans H.out.2.2.2.2.2
       have SC := Lib.hid ((H.out.1.later b1).sorted (by have := H.out.2.2.1; omega))
       have H1 := Lib.hid (And.intro o1 b1)
       clear o1 b1)
    | (go_at_call 44; refine SC.out.mono ?_; rintro e w2 ⟨kv, rfl, y2, b2⟩
       obtain ⟨ka, kc, rfl⟩ := y2.slice
       have H2 := Lib.hid (And.intro y2 (And.intro b2 (H1.out.2.trans (b2.mono H1.out.2.size))))
       clear y2 b2))
  have hlen : (Em.skeys D).length ≤ 256 := by rw [Em.skeys_len]; exact H.out.2.2.1
  generalize hN : (Em.skeys D).length = N at *
  have HN := Lib.hid hN
  clear hN
  go_loopw [5, 7, 13] (fun x _ s wr => ∃ i : Nat, i ≤ N ∧ s = .int .i64 (i : Int) ∧ OwnB wr W0.heap.size x (head ++ ((Em.skeys D).take i).flatMap (Em.rowOf D)) ∧ KeysAt wr (.slice ka N kc) (Em.skeys D) ∧ Below W0.heap.size W0 wr) (fun _ _ s _ => N - (intOf s).toNat)
  case atStart => exact ⟨0, by omega, rfl, by simpa using owns_below H1.out.1 H2.out.2.1 (Nat.le_refl _), H2.out.1, H2.out.2.2⟩
  case round =>
    obtain ⟨i, hi, rfl, hown, hkeys, hb⟩ := hrel
    by_cases hlt : i < N
    · have i0 : (0 : Int) ≤ (i : Int) := by omega
      have i1 : (i : Int) < (N : Int) := by omega
      obtain ⟨k, hk⟩ : ∃ k, (Em.skeys D)[i]? = some k := ⟨_, List.getElem?_eq_getElem (by rw [HN.out]; exact hlt)⟩
      have kmem := Em.skeys_mem H.out.2.1 (List.mem_of_getElem? hk)
      obtain ⟨b, rfl, hc⟩ := hkeys.at hk
      obtain ⟨m, n, hmo, hmap⟩ : ∃ m n, mo = some m ∧ RowsIn W0 m n D := by
        rcases H.out.1 with ⟨_, h2⟩ | ⟨m, n, h1, h2⟩
        · rw [h2] at hk
          simp [Em.skeys, strKeys] at hk
        · cases h1
          exact ⟨m, n, rfl, h2⟩
      have lm := hmap.lt
      have FR := Lib.hid (frame_c (w := wr.alloc (.cells #[strOfB k] tStr)) (fn := 118) (lb := #[.pointer (some ⟨wr.heap.size, 0, none⟩), .pointer (some ⟨w.heap.size + 1, 0, none⟩)]) (body := Wm.wnum 2 ++ Wm.wtext k ++ Wm.wtext (Em.valueOf D k)) EG.out
        (by have := Em.rowBody_len H.out.2.1 kmem.2; omega)
        (fun W hbW q1 => rowIn_c q1 ((hbW.cell (p := ⟨wr.heap.size, 0, none⟩) (by simp)).trans (row_cell (heap_alloc_last wr _) rfl))
          ((((hb.trans ((Below.refl _ _).alloc hb.size _)).trans (hbW.mono (by simp; have := hb.size; omega))).cell (p := ⟨w.heap.size + 1, 0, none⟩) (by simp; omega)).trans (by rw [H.out.2.2.2.2.2, hmo]))
          (rows_below hmap ((hb.trans ((Below.refl _ _).alloc hb.size _)).trans (hbW.mono (by simp; have := hb.size; omega))) lm)
          (by simp) (by simp; have := hb.size; omega) (by simp; have := hb.size; omega) (by omega) H.out.2.1))
      have HT := Lib.hid (rowOf_take (D := D) hk)
      have HA := Lib.hid (And.intro hown (And.intro hkeys hb))
      clear hown hkeys hb hk kmem hmo hmap lm
      go_wp2_with (first
        | (go_at_call 115; refine FR.out.mono ?_; rintro e w3 ⟨v3, rfl, o3, b3⟩
           have H3 := Lib.hid (And.intro o3 (((Below.refl wr.heap.size wr).alloc (Nat.le_refl _) _).trans (b3.mono (by simp))))
           clear o3 b3)
        | (at_builtin; refine wpList_append_grow rfl (.tmp 17) (.tmp 19) rfl W0.heap.size _ (head ++ ((Em.skeys D).take i).flatMap (Em.rowOf D)) rfl (owns_below HA.out.1 H3.out.2 (Nat.le_refl _)) _ _ _ rfl H3.out.1.at (by have h1 := LN.out i; have h2 : (Em.framed (Wm.wnum 2 ++ Wm.wtext k ++ Wm.wtext (Em.valueOf D k))).length ≤ 8205 := Em.framed_len _; omega) (Nat.le_trans HA.out.2.2.size H3.out.2.size) ?_
           intro v4 w4 o4 g4
           have own3 := owns_below HA.out.1 H3.out.2 (Nat.le_refl _)
           have H4 := Lib.hid (And.intro o4.out (And.intro ((HA.out.2.1.later H3.out.2).adds own3 g4.out) ((HA.out.2.2.trans (H3.out.2.mono HA.out.2.2.size)).trans (g4.out.below own3 (Nat.le_trans HA.out.2.2.size H3.out.2.size)))))
           clear o4 g4 own3))
      go_roundw
      case rel => exact ⟨i + 1, by omega, by go_num, by rw [HT.out, ← List.append_assoc]; exact H4.out.1, H4.out.2.1, H4.out.2.2⟩
      case measure => simp [intOf]; omega
    · obtain rfl : i = N := by omega
      go_wp2
      go_ret
      rw [List.take_of_length_le (by rw [HN.out]; exact Nat.le_refl _), ← HF.out] at hown
      exact ⟨_, rfl, owns_below hown (Below.refl _ _) H.out.2.2.2.1.size, H.out.2.2.2.1.trans (hb.mono H.out.2.2.2.1.size)⟩

end Go.Proofs.YtgffifleflkjoaaGreat

namespace Go.Proofs.YtgffifleflkjoaaGreat
open Go.RowKit Dm

abbrev PM (pd md : Nat) : Nat → Prop := fun k => k = pd ∨ k = md

theorem left_then {w W w' : World} {p m : Nat} {d : D} {F : Nat → Prop} {r : D × Int} {e : Ending} (x : DiskAt w.heap p m d F) (hm : Moves (PM p m) w W) (h : Left W p m (plus F w W) r e w') : Left w p m F r e w' := by
  obtain ⟨l1, l2, l3, l4, l5⟩ := x.lt
  obtain ⟨h1, h2, h3⟩ := h
  have hs := hm.size
  have hs2 := h2.size
  refine ⟨h1, hm.trans h2 (fun i _ hi => hi), h3.weak (fun k hk hl => ?_) ?_ ?_⟩
  · rcases hk with (hk | hk) | hk
    · exact Or.inl hk
    · exact Or.inr ⟨hk.1, hl⟩
    · exact Or.inr ⟨by omega, hl⟩
  · intro h
    rcases h with h | h
    · exact l4 h
    · omega
  · intro h
    rcases h with h | h
    · exact l5 h
    · omega

/-- A function value that does a step on a disk, in each world that comes of w by steps on that disk. -/
structure Does (w : World) (pd md : Nat) (fv : Value) (act : D → D × Int) : Prop where
  run : ∃ fn fs cs, fv = .func (.func fn) fs cs ∧ (∀ args w, (callFunc fn args).run Tryz.prog w = .ok (.enter fn args) w) ∧
    ∀ (W : World) (d : D) (F : Nat → Prop), Moves (PM pd md) w W → DiskAt W.heap pd md d F → d.waits.length ≤ 1000000000 → Calls Tryz.prog fn (fs ++ cs) W (Left W pd md F (act d))
  few : ∀ d, (act d).1.waits.length ≤ d.waits.length + 1

def chain : List (D → D × Int) → D → D × Int
  | [], d => (d, 0)
  | a :: l, d => if (a d).2 = 0 then chain l (a d).1 else a d

theorem chain_snoc {l : List (D → D × Int)} {a : D → D × Int} : ∀ {d d' : D}, chain l d = (d', 0) → chain (l ++ [a]) d = a d' := by
  induction l with
  | nil =>
    intro d d' h
    cases h
    show (if (a d).2 = 0 then ((a d).1, 0) else a d) = a d
    by_cases q : (a d).2 = 0
    · rw [if_pos q, ← q]
    · rw [if_neg q]
  | cons b l ih =>
    intro d d' h
    rw [List.cons_append]
    unfold chain at h ⊢
    by_cases q : (b d).2 = 0
    · rw [if_pos q] at h ⊢
      exact ih h
    · rw [if_neg q] at h
      rw [h] at q
      exact absurd rfl q

theorem chain_stop {l r : List (D → D × Int)} : ∀ {d : D}, (chain l d).2 ≠ 0 → chain (l ++ r) d = chain l d := by
  induction l with
  | nil => intro d h; exact absurd rfl h
  | cons b l ih =>
    intro d h
    rw [List.cons_append]
    unfold chain at h ⊢
    by_cases q : (b d).2 = 0
    · rw [if_pos q] at h ⊢
      rw [if_pos q]
      exact ih h
    · rw [if_neg q, if_neg q]

set_option maxRecDepth 100000 in
set_option maxHeartbeats 4000000 in
theorem firstOf_c {w : World} {pd md g cap : Nat} {d : D} {F : Nat → Prop} {fvs : List Value} {acts : List (D → D × Int)} {cs : Array Value} {t : TypeId} {fr : Nat × Nat} (x : DiskAt w.heap pd md d F) (hw : d.waits.length ≤ 900000000) (hg : w.heap[g]? = some (.cells cs t fr)) (hgp : g ≠ pd ∧ g ≠ md)
    (hcs : ∀ (i : Nat) (f : Value), fvs[i]? = some f → cs[i]? = some f) (hl : fvs.length = acts.length) (hd : ∀ (i : Nat) (f : Value) (a : D → D × Int), fvs[i]? = some f → acts[i]? = some a → Does w pd md f a) (hn : acts.length ≤ 100) :
    Calls Tryz.prog 71 #[.slice (some ⟨g, 0, none⟩) acts.length cap] w (Left w pd md F (chain acts d)) := by
  have H := Lib.hid (And.intro x (And.intro hg (And.intro hcs (And.intro hl hd))))
  have HW := Lib.hid hw
  clear x hg hcs hl hd hw
  generalize hN : acts.length = N at *
  have HN := Lib.hid hN
  clear hN
  go_enter Tryz.func71, Tryz.ntmps71
  go_wp2
  go_loopw [4, 5, 8] (fun _ _ s wr => ∃ i : Nat, i ≤ N ∧ s = .int .i64 (i : Int) ∧ ∃ d', chain (acts.take i) d = (d', 0) ∧ d'.waits.length ≤ d.waits.length + i ∧ DiskAt wr.heap pd md d' (plus F w wr) ∧ Moves (PM pd md) w wr) (fun _ _ s _ => N - (intOf s).toNat)
  case atStart => exact ⟨0, by omega, rfl, d, rfl, Nat.le_refl _, H.out.1.plus (Below.refl _ _), Moves.refl _ _⟩
  case round =>
    obtain ⟨i, hi, rfl, d', hch, hwt, hx, hm⟩ := hrel
    by_cases hlt : i < N
    · have i0 : (0 : Int) ≤ (i : Int) := by omega
      have i1 : (i : Int) < (N : Int) := by omega
      obtain ⟨f, hf⟩ : ∃ f, fvs[i]? = some f := ⟨_, List.getElem?_eq_getElem (by have := H.out.2.2.2.1; have := HN.out; omega)⟩
      obtain ⟨a, ha⟩ : ∃ a, acts[i]? = some a := ⟨_, List.getElem?_eq_getElem (by have := HN.out; omega)⟩
      have D0 := H.out.2.2.2.2 i f a hf ha
      obtain ⟨fn, fs, cc, rfl, eg, hrun⟩ := D0.run
      have hc : wr.cell? ⟨g, i, none⟩ = some (.func (.func fn) fs cc) := (cell_of_row _ _ _ _ _ _ ((hm.block g (lt_of_row H.out.2.1) (fun e => by rcases e with e | e; exact hgp.1 e; exact hgp.2 e)).trans H.out.2.1)).trans (H.out.2.2.1 i _ hf)
      have R := Lib.hid (hrun wr d' (plus F w wr) hm hx (by have := HW.out; omega))
      have HA := Lib.hid (And.intro hch (And.intro hwt (And.intro hm (And.intro ha (D0.few d')))))
      clear hch hwt hx hm hf ha D0 hrun
      by_cases q : (a d').2 = 0
      · have Q := Lib.hid q
        unfold Left at R
        rw [q] at R
        clear q
        go_wp2_with (refine R.out.mono ?_; rintro e w1 ⟨rfl, m1, x1⟩; have H1 := Lib.hid (And.intro m1 x1); clear m1 x1)
        go_roundw
        case rel =>
          have hs := HA.out.2.2.1.size
          have hs2 := H1.out.1.size
          obtain ⟨l1, l2, l3, l4, l5⟩ := H.out.1.lt
          refine ⟨i + 1, by omega, by go_num, (a d').1, ?_, by have := HA.out.2.2.2.2; have := HA.out.2.1; omega, H1.out.2.weak (fun k hk hl => ?_) ?_ ?_, HA.out.2.2.1.trans H1.out.1 (fun _ _ h => h)⟩
          · rw [List.take_add_one, HA.out.2.2.2.1]
            show chain (acts.take i ++ [a]) d = _
            rw [chain_snoc HA.out.1, ← Q.out]
          · rcases hk with (hk | hk) | hk
            · exact Or.inl hk
            · exact Or.inr ⟨hk.1, hl⟩
            · exact Or.inr ⟨by omega, hl⟩
          · intro h; rcases h with h | h; exact l4 h; omega
          · intro h; rcases h with h | h; exact l5 h; omega
        case measure => simp [intOf]; omega
      · have Q := Lib.hid q
        go_wp2_with (refine R.out.mono ?_; rintro e w1 ⟨rfl, m1, x1⟩; have H1 := Lib.hid (And.intro m1 x1); clear m1 x1)
        go_ret
        have e1 : chain (acts.take (i + 1)) d = a d' := by
          rw [List.take_add_one, HA.out.2.2.2.1]
          exact chain_snoc HA.out.1
        have e2 : chain acts d = a d' := by
          conv => lhs; rw [← List.take_append_drop (i + 1) acts]
          rw [chain_stop (by rw [e1]; exact Q.out), e1]
        rw [e2]
        exact left_then H.out.1 HA.out.2.2.1 ⟨rfl, H1.out.1, H1.out.2⟩
    · obtain rfl : i = N := by omega
      go_wp2
      go_ret
      rw [List.take_of_length_le (by rw [HN.out]; exact Nat.le_refl _)] at hch
      rw [hch]
      exact ⟨rfl, hm, hx⟩

end Go.Proofs.YtgffifleflkjoaaGreat

namespace Go.Proofs.YtgffifleflkjoaaGreat
open Go.RowKit

section
variable {P : Program} {ops : Array Oper} {md : Region.Mode} {I : World → Prop} {tail : List Nat}

theorem wpAnyI_firstP {Q : Act → World → Prop} {i : Nat} {oi : Oper} {v : Value} (hi : ops[i]? = some oi) (hsel : ∀ (j : Nat) (o : Oper) cs b, ops[j]? = some o → o.op ≠ .select cs b) (hit : i ∈ tail) :
    ∀ (fuel : Nat) (listed : Array Bool) (a : Act) (w : World),
      (∀ j oj, ops[j]? = some oj → j ≠ i → listed.getD j true = false → (∀ e ∈ oj.after, Region.binds md e = true → e.on ≠ i) → oi.apart ops oj = true) →
      i ∈ Region.ready md ops listed → YieldsI P ops (fun _ => True) oi v a →
      wpAnyI P md ops I tail Q fuel (listed.setIfInBounds i true) (a.put oi.dst v) w → wpAnyI P md ops I tail Q (fuel + 1) listed a w := by
  intro fuel
  induction fuel with
  | zero =>
    intro listed a w _ hr hy H
    refine ⟨fun h => (by rw [h] at hr; cases hr), fun j hj => ?_⟩
    by_cases hji : j = i
    · subst hji; exact hy.wpOp hi trivial ⟨fun h => absurd hit h, H⟩
    · have := ready_mono hj hji
      rw [H.1] at this
      cases this
  | succ fuel ih =>
    intro listed a w hfree hr hy H
    refine ⟨fun h => (by rw [h] at hr; cases hr), fun j hj => ?_⟩
    by_cases hji : j = i
    · subst hji; exact hy.wpOp hi trivial ⟨fun h => absurd hit h, H⟩
    · have h1 := H.2 j (ready_mono hj hji)
      obtain ⟨hjun, oj, hoj, hall⟩ := mem_ready.1 hj
      have hun := (mem_ready.1 hr).1
      have hnot : ∀ e ∈ oj.after, Region.binds md e = true → e.on ≠ i := fun e he hb heq => by
        have h1 := hall e he hb
        rw [heq, getD_both hun] at h1
        cases h1
      have h2 := wpOpI_put hoj (hfree j oj hoj hji hjun hnot) (fun cs b => hsel i oi cs b hi) (fun cs b => hsel j oj cs b hoj) hy h1
      have hfree' : ∀ k ok, ops[k]? = some ok → k ≠ i → (listed.setIfInBounds j true).getD k true = false →
          (∀ e ∈ ok.after, Region.binds md e = true → e.on ≠ i) → oi.apart ops ok = true := fun k ok hk hki hun hno => by
        refine hfree k ok hk hki ?_ hno
        by_cases hjk : j = k
        · subst hjk; exact hjun
        · rw [getD_set_ne true hjk] at hun; exact hun
      refine wpOp_mono (fun a' w' h3 => ⟨fun h => h3.2.1 h, ih (listed.setIfInBounds j true) a' w' hfree' (ready_mono hr (Ne.symm hji)) h3.1 ?_⟩) h2
      rw [Array.setIfInBounds_comm _ _ hji]
      exact h3.2.2

def pureB (md : Region.Mode) (ops : Array Oper) (tail : List Nat) : List Nat → Array Bool → Bool
  | [], _ => true
  | k :: r, listed => (Region.ready md ops listed).contains k && Region.free md ops listed k && tail.contains k && pureB md ops tail r (listed.setIfInBounds k true)

theorem wpAnyI_pures {Q : Act → World → Prop} (hs : Region.noSelect ops = true) {w : World} : ∀ (ks : List Nat) (f : Nat) (listed : Array Bool) (a : Act), pureB md ops tail ks listed = true →
    wpHoist P ops (fun _ => True) (fun a' => wpAnyI P md ops I tail Q f (ks.foldl (fun l k => l.setIfInBounds k true) listed) a' w) (ks.filterMap (fun k => ops[k]?)) a → wpAnyI P md ops I tail Q (f + ks.length) listed a w
  | [], f, listed, a, _, h => h
  | k :: r, f, listed, a, hB, h => by
    simp only [pureB, Bool.and_eq_true] at hB
    obtain ⟨⟨⟨h1, h2⟩, h3⟩, h4⟩ := hB
    have hr : k ∈ Region.ready md ops listed := by simpa using h1
    have ht : k ∈ tail := by simpa using h3
    obtain ⟨_, o, ho, _⟩ := mem_ready.1 hr
    simp only [List.filterMap_cons, ho, wpHoist] at h
    have : ∃ v, YieldsI P ops (fun _ => True) o v a ∧ wpHoist P ops (fun _ => True) (fun a' => wpAnyI P md ops I tail Q f ((k :: r).foldl (fun l k => l.setIfInBounds k true) listed) a' w) (r.filterMap (fun k => ops[k]?)) (a.put o.dst v) := by
      by_cases hw : Region.wanted o (yielded ops a.tmps) = true
      · rw [if_pos hw] at h
        obtain ⟨v, hv, hn⟩ := h
        refine ⟨v, .inl ⟨hw, fun w' hw' => ?_⟩, hn⟩
        have := hv w' hw'
        generalize (execOp a.eval o).run P w' = x at this
        cases x with
        | ok n w2 =>
          cases n <;> simp only [sameUpon] at this
          case value u => rw [this.1, this.2]
        | halt x w2 => simp only [sameUpon] at this
      · rw [if_neg hw] at h
        exact ⟨undef, .inr ⟨by simpa using hw, rfl⟩, h⟩
    obtain ⟨v, hy, hn⟩ := this
    rw [show f + (k :: r).length = (f + r.length) + 1 by simp; omega]
    exact wpAnyI_firstP ho (Region.noSelect_spec hs) ht _ _ _ _ (Region.free_spec ho h2) hr hy (wpAnyI_pures hs r f _ _ h4 hn)

/-- Operations that read no memory. -/
theorem wpAnyI_pure {Q : Act → World → Prop} {w : World} {a : Act} (ks : List Nat) (f : Nat) (listed : Array Bool) (hB : (Region.noSelect ops && pureB md ops tail ks listed) = true)
    (h : wpHoist P ops (fun _ => True) (fun a' => wpAnyI P md ops I tail Q f (ks.foldl (fun l k => l.setIfInBounds k true) listed) a' w) (ks.filterMap (fun k => ops[k]?)) a) : wpAnyI P md ops I tail Q (f + ks.length) listed a w := by
  simp only [Bool.and_eq_true] at hB
  exact wpAnyI_pures hB.1 ks f listed a hB.2 h

theorem wpHoist_load_guard {Q : Act → Prop} {a : Act} {o : Oper} {rest : List Oper} (hgd : Region.wanted o (yielded ops a.tmps) = true) (ty : TypeId) (x : Operand) (ho : o.op = .load ty x) (v : Value)
    (hrun : ∀ w, I w → (Instr.loadAt ty (a.eval x)).run P w = .ok v w) (h : wpHoist P ops I Q rest (a.put o.dst v)) : wpHoist P ops I Q (o :: rest) a :=
  wpHoist_step fun K hK => by
    simp only [hgd, if_true]
    refine ⟨v, fun w hw => ?_, hK _ h⟩
    unfold execOp
    simp only [ho, Sem.run_bind, hrun w hw, Result.andThen_ok, Sem.run_pure, sameUpon, and_self]

end
end Go.Proofs.YtgffifleflkjoaaGreat

namespace Go.Proofs.YtgffifleflkjoaaGreat
open Go.RowKit Dm

theorem wd_drew {w : World} {a : Addr} {v : Option Value} (h : w.cell? a = v) : ∀ x : Wd (fun w' => w' = w.drew), x.world.cell? a = v := fun x => by rw [x.ok]; exact h

theorem left_drew {w w' : World} {p m : Nat} {d : D} {F : Nat → Prop} {r : D × Int} {e : Ending} (x : DiskAt w.heap p m d F) (h : Left w.drew p m F r e w') : Left w p m F r e w' := ⟨h.1, ⟨h.2.1.os, h.2.1.tape, h.2.1.output, h.2.1.size, h.2.1.block⟩, h.2.2⟩

set_option maxRecDepth 100000 in
set_option maxHeartbeats 2000000 in
theorem putIn_c {w : World} {pl pd md b1 b2 b3 : Nat} {d : D} {F G : Nat → Prop} {v : Value} {l : List UInt8} {t : Nat} (x : DiskAt w.heap pd md d F) (c1 : w.cell? ⟨b1, 0, none⟩ = some (.pointer (some ⟨pl, 0, none⟩))) (c2 : w.cell? ⟨b2, 0, none⟩ = some (.int .i64 t)) (c3 : w.cell? ⟨b3, 0, none⟩ = some v)
    (c5 : w.cell? ⟨pl, 5, none⟩ = some (.pointer (some ⟨pd, 0, none⟩))) (hv : BytesAt w.heap G v l) (hl : l.length ≤ 1000000000) (hw : d.waits.length ≤ 1000000000) :
    Calls Tryz.prog 121 #[.pointer (some ⟨b1, 0, none⟩), .pointer (some ⟨b2, 0, none⟩), .pointer (some ⟨b3, 0, none⟩)] w (Left w pd md F (d.append t l)) := by
  have AC := Lib.hid (append_c (w := w.drew) x t hv (by omega) (by omega))
  obtain ⟨a, c, rfl⟩ := hv.slice
  have f1 := wd_drew c1
  have f2 := wd_drew c2
  have f3 := wd_drew c3
  have f5 := wd_drew c5
  have X := Lib.hid x
  clear x hv c1 c2 c3 c5
  have ne : Nonempty (Wd (fun w' => w' = w.drew)) := ⟨⟨_, rfl⟩⟩
  go_enter Tryz.func121, Tryz.ntmps121
  go_wp2
  refine wp_region_hoist (fun w' => ∃ x : Wd (fun w' => w' = w.drew), w' = x.world) [6, 7] (by kernel_rfl) ?_
  refine wpAnyI_reads [0, 1, 2, 3, 4, 5] 2 _ ⟨⟨_, rfl⟩, rfl⟩ (by kernel_rfl) ?_
  simp only [List.filterMap_cons, List.filterMap_nil, List.getElem?_toArray, List.getElem?_cons_succ, List.getElem?_cons_zero]
  repeat (refine wpHoist_step (fun K hK => ?_); simp only [hoists, sameUpon]; go_simp; refine hK _ ?_; clear hK K)
  refine wpHoist_nil ?_
  refine wpAnyI_one 6 1 _ _ rfl (by kernel_rfl) ?_
  refine wpList_plain rfl fun K hK => ?_
  go_simp
  refine AC.out.mono ?_
  rintro e w1 ⟨rfl, m1, x1⟩
  have L := Lib.hid (left_drew (e := .returned (.int .i64 (d.append t l).2)) X.out ⟨rfl, m1, x1⟩)
  clear m1 x1
  refine hK _ _ (wpList_nil ⟨rfl, fun h => absurd (by decide) h, ?_⟩)
  clear hK K
  refine wpAnyI_pure [7] 0 _ (by kernel_rfl) ?_
  simp only [List.filterMap_cons, List.filterMap_nil, List.getElem?_toArray, List.getElem?_cons_succ, List.getElem?_cons_zero]
  repeat (refine wpHoist_step (fun K hK => ?_); simp only [hoists, sameUpon]; go_simp; refine hK _ ?_; clear hK K)
  refine wpHoist_nil ?_
  refine ⟨by kernel_rfl, ?_⟩
  go_wp2
  go_ret
  exact L.out

theorem roomAt_c {w : World} {p m : Nat} {d : D} {F : Nat → Prop} (x : DiskAt w.heap p m d F) : Calls Tryz.prog 80 #[.pointer (some ⟨p, 0, none⟩)] w fun e w' => e = .returned (.int .i64 d.room) ∧ w = w' :=
  room_at p d.room w x.cell16.1 x.cell16.2.2.1

set_option maxRecDepth 100000 in
theorem size_c {w : World} {pl pd md : Nat} {d : D} {F : Nat → Prop} {t : Nat} (x : DiskAt w.heap pd md d F) (c5 : w.cell? ⟨pl, 5, none⟩ = some (.pointer (some ⟨pd, 0, none⟩))) (ht : t ≤ 3) :
    Calls Tryz.prog 74 #[.pointer (some ⟨pl, 0, none⟩), .int .i64 t] w fun e w' => e = .returned (.int .i64 (d.stand.tp t).length) ∧ Below w.heap.size w w' := by
  have TC := tape_c x t
  rw [if_neg (by omega), if_neg (by omega)] at TC
  have TC := Lib.hid TC
  clear x
  generalize d.stand.tp t = l at *
  go_enter Tryz.func74, Tryz.ntmps74
  go_wp2_with (go_at_call 61; refine TC.out.mono ?_; rintro e w1 ⟨v1, rfl, b1, y1⟩; obtain ⟨va, vc, rfl⟩ := y1.bytes.slice)
  go_ret
  exact ⟨rfl, b1⟩

set_option maxRecDepth 100000 in
set_option maxHeartbeats 2000000 in
theorem emptyIn_c {w : World} {pl pd md g1 b2 : Nat} {d : D} {F : Nat → Prop} {t : Nat} (x : DiskAt w.heap pd md d F) (c1 : w.cell? ⟨g1, 0, none⟩ = some (.pointer (some ⟨pl, 0, none⟩))) (c2 : w.cell? ⟨b2, 0, none⟩ = some (.int .i64 t))
    (c5 : w.cell? ⟨pl, 5, none⟩ = some (.pointer (some ⟨pd, 0, none⟩))) (ht : t ≤ 3) (hw : d.waits.length ≤ 1000000000) :
    Calls Tryz.prog 120 #[.pointer (some ⟨g1, 0, none⟩), .pointer (some ⟨b2, 0, none⟩)] w (Left w pd md F (Em.emptied d t)) := by
  have SC := Lib.hid (size_c x c5 ht)
  have X := Lib.hid x
  have C := Lib.hid (And.intro c1 (And.intro c2 c5))
  have l1 := block_lt_of_cell c1
  have l2 := block_lt_of_cell c2
  have l5 := block_lt_of_cell c5
  simp only at l1 l2 l5
  by_cases h0 : (d.stand.tp t).length = 0
  · have HE := Lib.hid (show Em.emptied d t = (d, 0) by unfold Em.emptied; rw [if_pos h0])
    rw [h0] at SC
    clear x h0
    go_enter Tryz.func120, Tryz.ntmps120
    go_wp2_with (go_at_call 74; refine SC.out.mono ?_; rintro e w1 ⟨rfl, b1⟩)
    go_ret
    rw [HE.out]
    exact left_below X.out b1
  · have HE := Lib.hid (show Em.emptied d t = d.cut t 0 by unfold Em.emptied; rw [if_neg h0])
    have h0' : ¬ ((d.stand.tp t).length : Int) = 0 := by omega
    clear x h0
    generalize hN : (d.stand.tp t).length = N at *
    go_enter Tryz.func120, Tryz.ntmps120
    go_wp2_with (go_at_call 74; refine SC.out.mono ?_; rintro e w1 ⟨rfl, b1⟩
                 have f1 := wd_drew ((b1.cell (p := ⟨g1, 0, none⟩) l1).trans C.out.1)
                 have f2 := wd_drew ((b1.cell (p := ⟨b2, 0, none⟩) l2).trans C.out.2.1)
                 have f5 := wd_drew ((b1.cell (p := ⟨pl, 5, none⟩) l5).trans C.out.2.2)
                 have X1 := Lib.hid (X.out.plus b1)
                 have CC := Lib.hid (cut_c (w := w1.drew) X1.out t 0 (by omega))
                 have HB := Lib.hid b1
                 clear b1)
    have ne : Nonempty (Wd (fun w' => w' = w1.drew)) := ⟨⟨_, rfl⟩⟩
    refine wp_region_hoist (fun w' => ∃ x : Wd (fun w' => w' = w1.drew), w' = x.world) [5, 6] (by kernel_rfl) ?_
    refine wpAnyI_reads [0, 1, 2, 3, 4] 2 _ ⟨⟨_, rfl⟩, rfl⟩ (by kernel_rfl) ?_
    simp only [List.filterMap_cons, List.filterMap_nil, List.getElem?_toArray, List.getElem?_cons_succ, List.getElem?_cons_zero]
    repeat (refine wpHoist_step (fun K hK => ?_); simp only [hoists, sameUpon]; go_simp; refine hK _ ?_; clear hK K)
    refine wpHoist_nil ?_
    refine wpAnyI_one 5 1 _ _ rfl (by kernel_rfl) ?_
    refine wpList_plain rfl fun K hK => ?_
    go_simp
    refine CC.out.mono ?_
    rintro e w2 ⟨rfl, m2, x2⟩
    have L := Lib.hid (left_drew (e := .returned (.int .i64 (d.cut t 0).2)) X1.out ⟨rfl, m2, x2⟩)
    clear m2 x2
    refine hK _ _ (wpList_nil ⟨rfl, fun h => absurd (by decide) h, ?_⟩)
    clear hK K
    refine wpAnyI_pure [6] 0 _ (by kernel_rfl) ?_
    simp only [List.filterMap_cons, List.filterMap_nil, List.getElem?_toArray, List.getElem?_cons_succ, List.getElem?_cons_zero]
    repeat (refine wpHoist_step (fun K hK => ?_); simp only [hoists, sameUpon]; go_simp; refine hK _ ?_; clear hK K)
    refine wpHoist_nil ?_
    refine ⟨by kernel_rfl, ?_⟩
    go_wp2
    go_ret
    rw [HE.out]
    exact left_later X.out HB.out L.out

end Go.Proofs.YtgffifleflkjoaaGreat

namespace Go.Proofs.YtgffifleflkjoaaGreat
open Go.RowKit Dm

theorem step_waits (d : D) (s : Step) : (d.step s).1.waits.length ≤ d.waits.length + 1 := by
  unfold D.step
  split
  · simp
  · simp [goes_waits]
theorem append_waits (d : D) (t : Int) (b : List UInt8) : (d.append t b).1.waits.length ≤ d.waits.length + 1 := by
  unfold D.append
  split
  · simp
  · split
    · simp
    · exact step_waits _ _
theorem cut_waits (d : D) (t n : Int) : (d.cut t n).1.waits.length ≤ d.waits.length + 1 := by
  unfold D.cut
  split
  · simp
  · exact step_waits _ _
theorem sync_waits (d : D) : d.sync.1.waits.length ≤ d.waits.length + 1 := by
  unfold D.sync
  split
  · simp
  · simp [goes_waits]
theorem emptied_waits (d : D) (t : Nat) : (Em.emptied d t).1.waits.length ≤ d.waits.length + 1 := by
  unfold Em.emptied
  split
  · simp
  · exact cut_waits _ _ _

theorem moved_cell {w W : World} {pd md : Nat} (hm : Moves (PM pd md) w W) {a : Addr} {v : Value} (h : w.cell? a = some v) (h1 : a.block ≠ pd) (h2 : a.block ≠ md) : W.cell? a = some v :=
  (World.cell?_of_block (hm.block a.block (block_lt_of_cell h) (fun e => by rcases e with e | e; exact h1 e; exact h2 e))).trans h

theorem bytes_moved {w W : World} {pd md : Nat} {G : Nat → Prop} {v : Value} {l : List UInt8} (h : BytesAt w.heap G v l) (hm : Moves (PM pd md) w W) (hG : ∀ k, G k → k ≠ pd ∧ k ≠ md) : BytesAt W.heap G v l :=
  h.keeps (fun k hk hl => hm.block k hl (fun e => by rcases e with e | e; exact (hG k hk).1 e; exact (hG k hk).2 e)) (fun _ h _ => h)

theorem put_does {w : World} {pl pd md b1 b2 b3 : Nat} {G : Nat → Prop} {v : Value} {l : List UInt8} {t : Nat} (c1 : w.cell? ⟨b1, 0, none⟩ = some (.pointer (some ⟨pl, 0, none⟩))) (c2 : w.cell? ⟨b2, 0, none⟩ = some (.int .i64 t)) (c3 : w.cell? ⟨b3, 0, none⟩ = some v)
    (c5 : w.cell? ⟨pl, 5, none⟩ = some (.pointer (some ⟨pd, 0, none⟩))) (hv : BytesAt w.heap G v l) (hG : ∀ k, G k → k ≠ pd ∧ k ≠ md) (hl : l.length ≤ 1000000000)
    (h1 : b1 ≠ pd ∧ b1 ≠ md) (h2 : b2 ≠ pd ∧ b2 ≠ md) (h3 : b3 ≠ pd ∧ b3 ≠ md) (h5 : pl ≠ pd ∧ pl ≠ md) :
    Does w pd md (.func (.func 121) #[] #[.pointer (some ⟨b1, 0, none⟩), .pointer (some ⟨b2, 0, none⟩), .pointer (some ⟨b3, 0, none⟩)]) (fun d => d.append t l) :=
  ⟨⟨_, _, _, rfl, enters_of Tryz.func121 (by kernel_rfl) rfl, fun W d F hm x hw =>
    putIn_c x (moved_cell hm c1 h1.1 h1.2) (moved_cell hm c2 h2.1 h2.2) (moved_cell hm c3 h3.1 h3.2) (moved_cell hm c5 h5.1 h5.2) (bytes_moved hv hm hG) hl hw⟩, fun d => append_waits d t l⟩

theorem empty_does {w : World} {pl pd md b1 b2 : Nat} {t : Nat} (c1 : w.cell? ⟨b1, 0, none⟩ = some (.pointer (some ⟨pl, 0, none⟩))) (c2 : w.cell? ⟨b2, 0, none⟩ = some (.int .i64 t))
    (c5 : w.cell? ⟨pl, 5, none⟩ = some (.pointer (some ⟨pd, 0, none⟩))) (ht : t ≤ 3) (h1 : b1 ≠ pd ∧ b1 ≠ md) (h2 : b2 ≠ pd ∧ b2 ≠ md) (h5 : pl ≠ pd ∧ pl ≠ md) :
    Does w pd md (.func (.func 120) #[] #[.pointer (some ⟨b1, 0, none⟩), .pointer (some ⟨b2, 0, none⟩)]) (fun d => Em.emptied d t) :=
  ⟨⟨_, _, _, rfl, enters_of Tryz.func120 (by kernel_rfl) rfl, fun W d F hm x hw =>
    emptyIn_c x (moved_cell hm c1 h1.1 h1.2) (moved_cell hm c2 h2.1 h2.2) (moved_cell hm c5 h5.1 h5.2) ht hw⟩, fun d => emptied_waits d t⟩

theorem sync_does (w : World) (pd md : Nat) : Does w pd md (.func (.func 60) #[.pointer (some ⟨pd, 0, none⟩)] #[]) D.sync :=
  ⟨⟨_, _, _, rfl, enters_of Tryz.func60 (by kernel_rfl) rfl, fun W d F hm x hw => sync_c x⟩, sync_waits⟩

theorem chain_two (a b : D → D × Int) (d : D) : chain [a, b] d = Em.next (a d) b := by
  show (if (a d).2 = 0 then (if (b (a d).1).2 = 0 then ((b (a d).1).1, 0) else b (a d).1) else a d) = (if (a d).2 = 0 then b (a d).1 else a d)
  by_cases q : (a d).2 = 0
  · rw [if_pos q, if_pos q]
    by_cases r : (b (a d).1).2 = 0
    · rw [if_pos r, ← r]
    · rw [if_neg r]
  · rw [if_neg q, if_neg q]

theorem chain_three (a b c : D → D × Int) (d : D) : chain [a, b, c] d = Em.next (Em.next (a d) b) c := by
  show (if (a d).2 = 0 then chain [b, c] (a d).1 else a d) = _
  rw [chain_two]
  unfold Em.next
  by_cases q : (a d).2 = 0
  · rw [if_pos q, if_pos q]
  · rw [if_neg q, if_neg q, if_neg q]

/-- The first of two: the bytes are appended, and synced. -/
theorem wrote_c {w : World} {pl pd md b1 b2 b3 g cap : Nat} {d : D} {F G : Nat → Prop} {v : Value} {l : List UInt8} {t : Nat} {tt : TypeId} (x : DiskAt w.heap pd md d F) (hw : d.waits.length ≤ 900000000)
    (c1 : w.cell? ⟨b1, 0, none⟩ = some (.pointer (some ⟨pl, 0, none⟩))) (c2 : w.cell? ⟨b2, 0, none⟩ = some (.int .i64 t)) (c3 : w.cell? ⟨b3, 0, none⟩ = some v)
    (c5 : w.cell? ⟨pl, 5, none⟩ = some (.pointer (some ⟨pd, 0, none⟩))) (hv : BytesAt w.heap G v l) (hG : ∀ k, G k → k ≠ pd ∧ k ≠ md) (hl : l.length ≤ 1000000000)
    (h1 : b1 ≠ pd ∧ b1 ≠ md) (h2 : b2 ≠ pd ∧ b2 ≠ md) (h3 : b3 ≠ pd ∧ b3 ≠ md) (h5 : pl ≠ pd ∧ pl ≠ md) (hg : g ≠ pd ∧ g ≠ md)
    (hr : w.heap[g]? = some (.cells #[.func (.func 121) #[] #[.pointer (some ⟨b1, 0, none⟩), .pointer (some ⟨b2, 0, none⟩), .pointer (some ⟨b3, 0, none⟩)], .func (.func 60) #[.pointer (some ⟨pd, 0, none⟩)] #[]] tt (0, 0))) :
    Calls Tryz.prog 71 #[.slice (some ⟨g, 0, none⟩) 2 cap] w (Left w pd md F (Em.wrote d t l)) := by
  have := firstOf_c (w := w) (g := g) (cap := cap) (acts := [fun d => d.append t l, D.sync])
    (fvs := [.func (.func 121) #[] #[.pointer (some ⟨b1, 0, none⟩), .pointer (some ⟨b2, 0, none⟩), .pointer (some ⟨b3, 0, none⟩)], .func (.func 60) #[.pointer (some ⟨pd, 0, none⟩)] #[]]) x hw hr hg
    (fun i f hf => by
      match i, hf with
      | 0, hf => cases hf; rfl
      | 1, hf => cases hf; rfl
      | i + 2, hf => simp at hf) rfl
    (fun i f a hf ha => by
      match i, hf, ha with
      | 0, hf, ha => cases hf; cases ha; exact put_does c1 c2 c3 c5 hv hG hl h1 h2 h3 h5
      | 1, hf, ha => cases hf; cases ha; exact sync_does w pd md
      | i + 2, hf, ha => simp at hf) (by simp)
  rw [chain_two] at this
  exact this

/-- The first of three: the tape is emptied, the bytes appended, and synced. -/
theorem rewrote_c {w : World} {pl pd md a1 a2 b1 b2 b3 g cap : Nat} {d : D} {F G : Nat → Prop} {v : Value} {l : List UInt8} {t : Nat} {tt : TypeId} (x : DiskAt w.heap pd md d F) (hw : d.waits.length ≤ 900000000) (ht : t ≤ 3)
    (e1 : w.cell? ⟨a1, 0, none⟩ = some (.pointer (some ⟨pl, 0, none⟩))) (e2 : w.cell? ⟨a2, 0, none⟩ = some (.int .i64 t))
    (c1 : w.cell? ⟨b1, 0, none⟩ = some (.pointer (some ⟨pl, 0, none⟩))) (c2 : w.cell? ⟨b2, 0, none⟩ = some (.int .i64 t)) (c3 : w.cell? ⟨b3, 0, none⟩ = some v)
    (c5 : w.cell? ⟨pl, 5, none⟩ = some (.pointer (some ⟨pd, 0, none⟩))) (hv : BytesAt w.heap G v l) (hG : ∀ k, G k → k ≠ pd ∧ k ≠ md) (hl : l.length ≤ 1000000000)
    (k1 : a1 ≠ pd ∧ a1 ≠ md) (k2 : a2 ≠ pd ∧ a2 ≠ md) (h1 : b1 ≠ pd ∧ b1 ≠ md) (h2 : b2 ≠ pd ∧ b2 ≠ md) (h3 : b3 ≠ pd ∧ b3 ≠ md) (h5 : pl ≠ pd ∧ pl ≠ md) (hg : g ≠ pd ∧ g ≠ md)
    (hr : w.heap[g]? = some (.cells #[.func (.func 120) #[] #[.pointer (some ⟨a1, 0, none⟩), .pointer (some ⟨a2, 0, none⟩)],
      .func (.func 121) #[] #[.pointer (some ⟨b1, 0, none⟩), .pointer (some ⟨b2, 0, none⟩), .pointer (some ⟨b3, 0, none⟩)], .func (.func 60) #[.pointer (some ⟨pd, 0, none⟩)] #[]] tt (0, 0))) :
    Calls Tryz.prog 71 #[.slice (some ⟨g, 0, none⟩) 3 cap] w (Left w pd md F (Em.rewrote d t l)) := by
  have := firstOf_c (w := w) (g := g) (cap := cap) (acts := [fun d => Em.emptied d t, fun d => d.append t l, D.sync])
    (fvs := [.func (.func 120) #[] #[.pointer (some ⟨a1, 0, none⟩), .pointer (some ⟨a2, 0, none⟩)], .func (.func 121) #[] #[.pointer (some ⟨b1, 0, none⟩), .pointer (some ⟨b2, 0, none⟩), .pointer (some ⟨b3, 0, none⟩)], .func (.func 60) #[.pointer (some ⟨pd, 0, none⟩)] #[]]) x hw hr hg
    (fun i f hf => by
      match i, hf with
      | 0, hf => cases hf; rfl
      | 1, hf => cases hf; rfl
      | 2, hf => cases hf; rfl
      | i + 3, hf => simp at hf) rfl
    (fun i f a hf ha => by
      match i, hf, ha with
      | 0, hf, ha => cases hf; cases ha; exact empty_does e1 e2 c5 ht k1 k2 h5
      | 1, hf, ha => cases hf; cases ha; exact put_does c1 c2 c3 c5 hv hG hl h1 h2 h3 h5
      | 2, hf, ha => cases hf; cases ha; exact sync_does w pd md
      | i + 3, hf, ha => simp at hf) (by simp)
  rw [chain_three] at this
  exact this

theorem empty_c (pl t : Nat) (w : World) : Calls Tryz.prog 72 #[.pointer (some ⟨pl, 0, none⟩), .int .i64 t] w fun e w' =>
    e = .returned (.func (.func 120) #[] #[.pointer (some ⟨w.heap.size, 0, none⟩), .pointer (some ⟨w.heap.size + 1, 0, none⟩)]) ∧ (w.alloc (.cells #[.pointer (some ⟨pl, 0, none⟩)] 27)).alloc (.cells #[.int .i64 t] 3) = w' := by
  have hmf : ∀ (fn : Fn) (first cap : Array Value) (w : World), (Instr.makeFunc fn first cap).run Tryz.prog w = .ok (.func fn first cap) w := fun _ _ _ _ => rfl
  go_enter Tryz.func72, Tryz.ntmps72
  go_wp2
  go_ret
  exact ⟨rfl, rfl⟩

theorem put_c (pl t : Nat) (a : Option Addr) (n c : Nat) (w : World) : Calls Tryz.prog 73 #[.pointer (some ⟨pl, 0, none⟩), .int .i64 t, .slice a n c] w fun e w' =>
    e = .returned (.func (.func 121) #[] #[.pointer (some ⟨w.heap.size, 0, none⟩), .pointer (some ⟨w.heap.size + 1, 0, none⟩), .pointer (some ⟨w.heap.size + 1 + 1, 0, none⟩)]) ∧
      ((w.alloc (.cells #[.pointer (some ⟨pl, 0, none⟩)] 27)).alloc (.cells #[.int .i64 t] 3)).alloc (.cells #[.slice a n c] 31) = w' := by
  have hmf : ∀ (fn : Fn) (first cap : Array Value) (w : World), (Instr.makeFunc fn first cap).run Tryz.prog w = .ok (.func fn first cap) w := fun _ _ _ _ => rfl
  go_enter Tryz.func73, Tryz.ntmps73
  go_wp2
  go_ret
  exact ⟨rfl, rfl⟩

end Go.Proofs.YtgffifleflkjoaaGreat

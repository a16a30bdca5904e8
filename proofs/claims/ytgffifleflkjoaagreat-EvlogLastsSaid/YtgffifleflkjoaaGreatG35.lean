/-
  evlog, plain: a tape that is laid by the engine is read whole, whatever is torn behind it.
  evlog, plain: what a disk has behind an engine's steps; what a crash leaves of them.
  evlog, plain: an engine on a disk that may stop; what Open makes of what a crash leaves.
-/
import Derived.Test.YtgffifleflkjoaaGreatG08
import Derived.Test.YtgffifleflkjoaaGreatG11
import Derived.Test.YtgffifleflkjoaaGreatG22
import Derived.Test.YtgffifleflkjoaaGreatG28
import Derived.Test.YtgffifleflkjoaaGreatG34

namespace Go.Proofs.YtgffifleflkjoaaGreat
open Go.Maps Cm Em

/-- A tape that tells so many batches, and goes on. -/
structure TRuns (L : List UInt8) (g : Nat) (D : Em.Rows) (n : Nat) : Prop where
  few : n ≤ L.length
  g0 : 0 < g
  g1 : g ≤ 2147483647
  rows : RowsOk D
  tidy : Tidy D
  size : size D ≤ 256
  more : ∃ D0 f0, (∀ rest, rbegin (L ++ rest) = some (g, D0, f0)) ∧ ∀ rest k, rmore (L ++ rest) (n + k) f0 D0 0 = rmore (L ++ rest) k L.length D n

theorem runs_folded {D : Em.Rows} {g : Nat} (h : RowsOk D) (ht : Tidy D) (hs : Maps.size D ≤ 256) (h0 : 0 < g) (h1 : g ≤ 2147483647) : TRuns (folded g D) g (again D) 0 := by
  obtain ⟨a1, a2⟩ := again_ok h
  refine ⟨Nat.zero_le _, h0, h1, a1, a2, ?_, again D, (folded g D).length, fun rest => rbegin_folded h ht hs h0 h1 rest, fun rest k => by rw [Nat.zero_add]⟩
  rw [← tell_len, tell_again h ht, tell_len]
  exact hs

theorem runs_batch {L : List UInt8} {g n : Nat} {D : Em.Rows} {l : List Change} (h : TRuns L g D n) (hd : doneErr D l = 0) (hb : (batchBody l).length ≤ 8192) : TRuns (L ++ Wm.frame (batchBody l)) g (behind D l) (n + 1) := by
  obtain ⟨k1, k2⟩ := doneErr_zero hd
  have hp := Wm.frame_pos (batchBody l)
  have hl : (L ++ Wm.frame (batchBody l)).length = L.length + (Wm.frame (batchBody l)).length := List.length_append
  obtain ⟨D0, f0, m1, m2⟩ := h.more
  refine ⟨by have := h.few; omega, h.g0, h.g1, rowsOk_behind h.rows k1, (tell_fold (right_zero k1).2 h.rows h.tidy).2, k2, D0, f0, fun rest => by rw [List.append_assoc]; exact m1 _, fun rest k => ?_⟩
  rw [List.append_assoc, Nat.add_assoc, m2, Nat.add_comm 1 k, rmore]
  have hg : rgoes (L ++ (Wm.frame (batchBody l) ++ rest)) L.length D = some (behind D l, L.length + (Wm.frame (batchBody l)).length) := by
    unfold rgoes
    rw [List.drop_left, Wm.split_frame hb]
    simp only
    rw [rbatch_body k1]
    simp only
    rw [if_pos hd]
  rw [hg]
  simp only
  rw [List.length_append]

theorem runs_rtape {L J : List UInt8} {g n : Nat} {D : Em.Rows} (h : TRuns L g D n) (hj : Wm.split J = none) : rtape (L ++ J) = ⟨g, D, n, L.length⟩ := by
  obtain ⟨D0, f0, m1, m2⟩ := h.more
  have hf := h.few
  unfold rtape
  rw [m1]
  simp only
  obtain ⟨k, hk⟩ : ∃ k, (L ++ J).length + 1 = n + (k + 1) := ⟨(L ++ J).length - n, by rw [List.length_append]; omega⟩
  rw [hk, m2, rmore]
  have hg : rgoes (L ++ J) L.length D = none := by
    unfold rgoes
    rw [List.drop_left, hj]
  rw [hg]

theorem runs_whole {L : List UInt8} {g n : Nat} {D : Em.Rows} (h : TRuns L g D n) : rtape L = ⟨g, D, n, L.length⟩ := by
  have := runs_rtape (J := []) h rfl
  rwa [List.append_nil] at this

theorem runs_torn {L b : List UInt8} {g n k : Nat} {D : Em.Rows} (h : TRuns L g D n) (hb : b.length ≤ 8192) (hk : k < (Wm.frame b).length) : rtape (L ++ (Wm.frame b).take k) = ⟨g, D, n, L.length⟩ := runs_rtape h (Wm.split_torn hb hk)

theorem rtape_nil : rtape [] = Em.T.none := rfl

theorem rtape_torn {D : Em.Rows} {g n : Nat} (h : RowsOk D) (ht : Tidy D) (hs : Maps.size D ≤ 256) (h0 : 0 < g) (h1 : g ≤ 2147483647) (hn : n < (folded g D).length) : rtape ((folded g D).take n) = Em.T.none := by
  unfold rtape
  rw [rbegin_torn h ht hs h0 h1 hn]

/-- What is answered and left depends on what the rows tell. -/
theorem same_tell {D D' : Em.Rows} (h : RowsOk D) (ht : Tidy D) (h' : RowsOk D') (ht' : Tidy D') (e : tell D = tell D') (l : List Change) : doneErr D l = doneErr D' l ∧ (doneErr D l = 0 → tell (behind D l) = tell (behind D' l)) := by
  have r := rall_tell h ht l
  rw [e, rall_tell h' ht' l] at r
  by_cases h0 : doneErr D l = 0 <;> by_cases h1 : doneErr D' l = 0
  · rw [if_pos h0, if_pos h1] at r
    exact ⟨by rw [h0, h1], fun _ => (congrArg Prod.fst r).symm⟩
  · rw [if_pos h0, if_neg h1] at r
    have e2 : doneErr D' l = 0 := congrArg Prod.snd r
    exact absurd e2 h1
  · rw [if_neg h0, if_pos h1] at r
    have e2 : 0 = doneErr D l := congrArg Prod.snd r
    exact absurd e2.symm h0
  · rw [if_neg h0, if_neg h1] at r
    have e2 : doneErr D' l = doneErr D l := congrArg Prod.snd r
    exact ⟨e2.symm, fun h => absurd h h0⟩

/-- What every tape tells may be an engine's. -/
theorem rmore_ok {l : List UInt8} : ∀ {f fin n : Nat} {D D' : Em.Rows} {n' fin' : Nat}, rmore l f fin D n = (D', n', fin') → RowsOk D → Maps.size D ≤ 256 → fin ≤ l.length → RowsOk D' ∧ Maps.size D' ≤ 256 ∧ fin' ≤ l.length ∧ n' + fin ≤ n + fin'
  | 0, fin, n, D, D', n', fin', h, ho, hs, hf => by
    have e1 : D = D' := congrArg Prod.fst h
    have e2 : n = n' := congrArg (fun p => p.2.1) h
    have e3 : fin = fin' := congrArg (fun p => p.2.2) h
    subst e1; subst e2; subst e3
    exact ⟨ho, hs, hf, Nat.le_refl _⟩
  | f + 1, fin, n, D, D', n', fin', h, ho, hs, hf => by
    rw [rmore] at h
    cases hg : rgoes l fin D with
    | none =>
      rw [hg] at h
      have e1 : D = D' := congrArg Prod.fst h
      have e2 : n = n' := congrArg (fun p => p.2.1) h
      have e3 : fin = fin' := congrArg (fun p => p.2.2) h
      subst e1; subst e2; subst e3
      exact ⟨ho, hs, hf, Nat.le_refl _⟩
    | some p =>
      obtain ⟨D1, f1⟩ := p
      rw [hg] at h
      obtain ⟨q1, q2, q3⟩ := rgoes_ok hg ho
      have hf1 : f1 ≤ l.length := by
        unfold rgoes at hg
        cases hsp : Wm.split (l.drop fin) with
        | none => rw [hsp] at hg; cases hg
        | some p =>
          obtain ⟨body, m⟩ := p
          have hm := (split_pos hsp).2.1
          rw [List.length_drop] at hm
          rw [hsp] at hg
          simp only at hg
          cases hb : rbatch body with
          | none => rw [hb] at hg; cases hg
          | some c =>
            rw [hb] at hg
            simp only at hg
            by_cases hd : doneErr D c = 0
            · rw [if_pos hd] at hg
              have e := congrArg Prod.snd (Option.some.inj hg)
              have e : fin + m = f1 := e
              omega
            · rw [if_neg hd] at hg; cases hg
      obtain ⟨r1, r2, r3, r4⟩ := rmore_ok (f := f) h q1 q2 hf1
      exact ⟨r1, r2, r3, by omega⟩

theorem rrows_fin {l : List UInt8} : ∀ {n fin : Nat} {last : List UInt8} {D D' : Em.Rows} {f' : Nat}, rrows l n fin last D = some (D', f') → fin ≤ l.length → f' ≤ l.length
  | 0, fin, last, D, D', f', h, hf => by
    have e : fin = f' := congrArg Prod.snd (Option.some.inj h)
    omega
  | n + 1, fin, last, D, D', f', h, hf => by
    rw [rrows] at h
    cases hs : Wm.split (l.drop fin) with
    | none => rw [hs] at h; cases h
    | some p =>
      obtain ⟨body, m⟩ := p
      have hm := (split_pos hs).2.1
      rw [List.length_drop] at hm
      rw [hs] at h
      simp only at h
      cases hr : rrow last body with
      | none => rw [hr] at h; cases h
      | some p =>
        obtain ⟨k, v⟩ := p
        rw [hr] at h
        simp only at h
        exact rrows_fin h (by omega)

theorem rbegin_fin {l : List UInt8} {g fin : Nat} {D : Em.Rows} (h : rbegin l = some (g, D, fin)) : fin ≤ l.length := by
  unfold rbegin at h
  cases hs : Wm.split l with
  | none => rw [hs] at h; cases h
  | some p =>
    obtain ⟨body, m⟩ := p
    rw [hs] at h
    simp only at h
    cases hh : rhead body with
    | none => rw [hh] at h; cases h
    | some p =>
      obtain ⟨g', n⟩ := p
      rw [hh] at h
      simp only at h
      cases hr : rrows l n m [] (.map []) with
      | none => rw [hr] at h; cases h
      | some p =>
        obtain ⟨D', f'⟩ := p
        rw [hr] at h
        have e := Option.some.inj h
        have e2 : f' = fin := congrArg (fun p => p.2.2) e
        have := rrows_fin hr (split_pos hs).2.1
        omega

theorem rtape_ok (l : List UInt8) : (rtape l).gen ≤ 2147483647 ∧ RowsOk (rtape l).rows ∧ Maps.size (rtape l).rows ≤ 256 ∧ (rtape l).fin ≤ l.length ∧ (rtape l).batches ≤ (rtape l).fin := by
  unfold rtape
  cases hb : rbegin l with
  | none => exact ⟨Nat.zero_le _, rowsOk_none, Nat.zero_le _, Nat.zero_le _, Nat.zero_le _⟩
  | some p =>
    obtain ⟨g, D, fin⟩ := p
    obtain ⟨b1, b2, b3, b4, b5⟩ := rbegin_ok hb
    have hf := rbegin_fin hb
    obtain ⟨r1, r2, r3, r4⟩ := rmore_ok (f := l.length + 1) (n := 0) (D' := (rmore l (l.length + 1) fin D 0).1) (n' := (rmore l (l.length + 1) fin D 0).2.1) (fin' := (rmore l (l.length + 1) fin D 0).2.2) rfl b1 b3 hf
    exact ⟨b5, r1, r2, r3, by show (rmore l (l.length + 1) fin D 0).2.1 ≤ (rmore l (l.length + 1) fin D 0).2.2; omega⟩

end Go.Proofs.YtgffifleflkjoaaGreat

namespace Go.Proofs.YtgffifleflkjoaaGreat
open Dm

abbrev sApp (t : Nat) (b : List UInt8) : Step := ⟨2, t, 0, b⟩
abbrev sCut (t : Nat) : Step := ⟨3, t, 0, []⟩

theorem crashX_other (c : Crash) (n i : Nat) (s : Step) (x : St) (u : Int) (h : u ≠ s.n) : (crashX c n i s x).tp u = x.tp u := by
  unfold crashX
  split
  · exact part_tp_other _ _ _ _ h
  · split
    · exact done_tp_other _ _ _ h
    · rfl

theorem crashX_app (c : Crash) (n i : Nat) (t : Nat) (b : List UInt8) (x : St) : ∃ k, (crashX c n i (sApp t b) x).tp t = x.tp t ++ b.take k := by
  unfold crashX
  split
  · refine ⟨(pick c.part (b.length + 1)).toNat, ?_⟩
    simp [St.part, St.done, upd]
  · split
    · exact ⟨b.length, by simp [St.done, upd]⟩
    · exact ⟨0, by simp⟩

theorem crashX_cut (c : Crash) (n i : Nat) (t : Nat) (x : St) : (crashX c n i (sCut t) x).tp t = if (c.isTorn n i || !c.kept i) = true then x.tp t else [] := by
  unfold crashX
  cases h1 : c.isTorn n i
  · cases h2 : c.kept i
    · simp
    · simp [St.done, upd]
  · simp [St.part]

theorem crashd_stand (d : D) (c : Crash) : (d.crash c).stand = crashGo c d.waits.length d.waits 0 d.lasts (fun _ => false) := rfl

theorem crashd_none {d : D} (h : d.waits = []) (c : Crash) : (d.crash c).stand = d.lasts := by rw [crashd_stand, h]; rfl

theorem crash_cut {d : D} {o : Nat} (h : d.waits = [sCut o]) (c : Crash) : (∀ u : Int, u ≠ o → (d.crash c).stand.tp u = d.lasts.tp u) ∧ ((d.crash c).stand.tp o = d.lasts.tp o ∨ (d.crash c).stand.tp o = []) := by
  rw [crashd_stand, h, crashGo_step _ _ _ _ _ _ _ (by simp), crashGo]
  refine ⟨fun u hu => crashX_other _ _ _ _ _ _ hu, ?_⟩
  rw [crashX_cut]
  split
  · exact Or.inl rfl
  · exact Or.inr rfl

theorem crash_app {d : D} {t : Nat} {b : List UInt8} (h : d.waits = [sApp t b]) (c : Crash) : (∀ u : Int, u ≠ t → (d.crash c).stand.tp u = d.lasts.tp u) ∧ ∃ k, (d.crash c).stand.tp t = d.lasts.tp t ++ b.take k := by
  rw [crashd_stand, h, crashGo_step _ _ _ _ _ _ _ (by simp), crashGo]
  exact ⟨fun u hu => crashX_other _ _ _ _ _ _ hu, crashX_app _ _ _ _ _ _⟩

theorem crash_cut_app {d : D} {t o : Nat} {b : List UInt8} (hto : t ≠ o) (h : d.waits = [sCut o, sApp t b]) (c : Crash) :
    ((d.crash c).stand.tp o = d.lasts.tp o ∨ (d.crash c).stand.tp o = []) ∧ ∃ k, (d.crash c).stand.tp t = d.lasts.tp t ++ b.take k := by
  have ht : (t : Int) ≠ o := by omega
  have h2 : ¬ ((sApp t b).what ≠ 1 ∧ crashE c 2 0 (sCut o) (fun _ => false) (sApp t b).n = true) := by
    rintro ⟨_, h⟩
    have : crashE c 2 0 (sCut o) (fun _ => false) (t : Int) = false := by
      unfold crashE
      rw [if_pos (show (3 : Int) ≠ 1 by decide), upd_other _ _ _ _ ht]
    rw [this] at h
    cases h
  rw [crashd_stand, h, crashGo_step _ _ _ _ _ _ _ (by simp)]
  show (_ ∨ _) ∧ _
  rw [show ([sCut o, sApp t b] : List Step).length = 2 from rfl, crashGo_step _ _ _ _ _ _ _ h2, crashGo]
  refine ⟨?_, ?_⟩
  · rw [crashX_other _ _ _ _ _ _ (show (o : Int) ≠ (sApp t b).n from fun e => ht e.symm), crashX_cut]
    split
    · exact Or.inl rfl
    · exact Or.inr rfl
  · obtain ⟨k, hk⟩ := crashX_app c 2 (0 + 1) t b (crashX c 2 0 (sCut o) d.lasts)
    exact ⟨k, by rw [hk, crashX_other _ _ _ _ _ _ (show (t : Int) ≠ (sCut o).n from ht)]⟩

theorem crash_cut_same {d : D} {o : Nat} {b : List UInt8} (h : d.waits = [sCut o, sApp o b]) (c : Crash) :
    (∀ u : Int, u ≠ o → (d.crash c).stand.tp u = d.lasts.tp u) ∧ ((d.crash c).stand.tp o = d.lasts.tp o ∨ ∃ k, (d.crash c).stand.tp o = b.take k) := by
  rw [crashd_stand, h, crashGo_step _ _ _ _ _ _ _ (by simp), show ([sCut o, sApp o b] : List Step).length = 2 from rfl]
  have he : crashE c 2 0 (sCut o) (fun _ => false) (o : Int) = (c.isTorn 2 0 || !c.kept 0) := by
    unfold crashE
    rw [if_pos (show (3 : Int) ≠ 1 by decide), upd_same]
  have hx := crashX_cut c 2 0 o d.lasts
  by_cases hd : (c.isTorn 2 0 || !c.kept 0) = true
  · rw [crashGo_skip _ _ _ _ _ _ _ ⟨show (2 : Int) ≠ 1 by decide, he.trans hd⟩, crashGo]
    refine ⟨fun u hu => crashX_other _ _ _ _ _ _ hu, Or.inl ?_⟩
    rw [hx, if_pos hd]
  · rw [crashGo_step _ _ _ _ _ _ _ (fun hh => hd (he.symm.trans hh.2)), crashGo]
    refine ⟨fun u hu => ?_, Or.inr ?_⟩
    · rw [crashX_other _ _ _ _ _ _ hu, crashX_other _ _ _ _ _ _ hu]
    · obtain ⟨k, hk⟩ := crashX_app c 2 (0 + 1) o b (crashX c 2 0 (sCut o) d.lasts)
      exact ⟨k, by rw [hk, hx, if_neg hd, List.nil_append]⟩

theorem goes_live {d : D} (h : d.dead = false) : (∃ s, d.goes = ({ d with stops := s }, 0)) ∨ ∃ s, d.goes = ({ d with dead := true, stops := s }, 281) := by
  have hd : ¬ d.dead = true := by rw [h]; decide
  unfold D.goes
  rw [if_neg hd]
  by_cases h0 : d.stops = 0
  · rw [if_pos h0]; exact Or.inr ⟨_, rfl⟩
  · rw [if_neg h0]
    by_cases h1 : d.stops > 0
    · rw [if_pos h1]; exact Or.inl ⟨_, rfl⟩
    · rw [if_neg h1]
      exact Or.inl ⟨d.stops, rfl⟩

theorem stepd_live {d : D} (h : d.dead = false) (st : Step) : (∃ s, d.step st = ({ d with stops := s, waits := d.waits ++ [st] }, 0)) ∨ ∃ s, d.step st = ({ d with dead := true, stops := s }, 281) := by
  unfold D.step
  rcases goes_live h with ⟨s, e⟩ | ⟨s, e⟩
  · rw [e]; exact Or.inl ⟨s, rfl⟩
  · rw [e]; exact Or.inr ⟨s, rfl⟩

theorem appendd_live {d : D} (h : d.dead = false) {t : Nat} (ht : t ≤ 1) (b : List UInt8) : d.append t b = (d, 280) ∨ (∃ s, d.append t b = ({ d with stops := s, waits := d.waits ++ [sApp t b] }, 0)) ∨ ∃ s, d.append t b = ({ d with dead := true, stops := s }, 281) := by
  unfold D.append
  rw [if_neg (by omega)]
  by_cases hf : d.stand.used + b.length > d.room
  · rw [if_pos hf]; exact Or.inl rfl
  · rw [if_neg hf]; exact Or.inr (stepd_live h _)

theorem cutd_live {d : D} (h : d.dead = false) {t : Nat} (ht : t ≤ 1) : (∃ s, d.cut t 0 = ({ d with stops := s, waits := d.waits ++ [sCut t] }, 0)) ∨ ∃ s, d.cut t 0 = ({ d with dead := true, stops := s }, 281) := by
  unfold D.cut
  rw [if_neg (by omega)]
  exact stepd_live h _

theorem syncd_live {d : D} (h : d.dead = false) : (∃ s, d.sync = ({ d with stops := s, lasts := d.stand, waits := [] }, 0)) ∨ ∃ s, d.sync = ({ d with dead := true, stops := s }, 281) := by
  unfold D.sync
  rcases goes_live h with ⟨s, e⟩ | ⟨s, e⟩
  · rw [e]; exact Or.inl ⟨s, rfl⟩
  · rw [e]; exact Or.inr ⟨s, rfl⟩

/-- Nothing waits, or the cut of the other tape alone. -/
def CutWaits (o : Nat) (d : D) : Prop := d.waits = [] ∨ d.waits = [sCut o]

theorem wrote_live {d : D} {t o : Nat} (h : d.dead = false) (ht : t ≤ 1) (hto : t ≠ o) (hw : CutWaits o d) (b : List UInt8) :
    Em.wrote d t b = (d, 280) ∨
    ((Em.wrote d t b).2 = 281 ∧ (Em.wrote d t b).1.lasts = d.lasts ∧ CutWaits o (Em.wrote d t b).1) ∨
    ((Em.wrote d t b).2 = 281 ∧ (Em.wrote d t b).1.lasts = d.lasts ∧ ((Em.wrote d t b).1.waits = [sApp t b] ∨ (Em.wrote d t b).1.waits = [sCut o, sApp t b])) ∨
    ((Em.wrote d t b).2 = 0 ∧ (Em.wrote d t b).1.dead = false ∧ (Em.wrote d t b).1.waits = [] ∧ (Em.wrote d t b).1.lasts.tp t = d.lasts.tp t ++ b ∧ ((Em.wrote d t b).1.lasts.tp o = d.lasts.tp o ∨ (Em.wrote d t b).1.lasts.tp o = [])) := by
  have hne : (o : Int) ≠ t := by omega
  have hne' : (t : Int) ≠ o := by omega
  unfold Em.wrote Em.next
  rcases appendd_live h ht b with e | ⟨s, e⟩ | ⟨s, e⟩
  · rw [e]
    exact Or.inl (if_neg (show ¬ (280 : Int) = 0 by decide))
  · rw [e]
    simp only [if_true]
    have hd : ({ d with stops := s, waits := d.waits ++ [sApp t b] } : D).dead = false := h
    rcases syncd_live hd with ⟨s', e'⟩ | ⟨s', e'⟩
    · rw [e']
      refine Or.inr (Or.inr (Or.inr ⟨rfl, h, rfl, ?_, ?_⟩))
      · show ((d.waits ++ [sApp t b]).foldl St.done d.lasts).tp t = _
        rcases hw with hw | hw
        · rw [hw]; simp [St.done, upd]
        · rw [hw]; simp [St.done, upd, hne']
      · show ((d.waits ++ [sApp t b]).foldl St.done d.lasts).tp o = _ ∨ ((d.waits ++ [sApp t b]).foldl St.done d.lasts).tp o = _
        rcases hw with hw | hw
        · rw [hw]; left; simp [St.done, upd, hne]
        · rw [hw]; right; simp [St.done, upd, hne]
    · rw [e']
      refine Or.inr (Or.inr (Or.inl ⟨rfl, rfl, ?_⟩))
      show d.waits ++ [sApp t b] = _ ∨ d.waits ++ [sApp t b] = _
      rcases hw with hw | hw
      · rw [hw]; exact Or.inl rfl
      · rw [hw]; exact Or.inr rfl
  · rw [e]
    refine Or.inr (Or.inl ?_)
    rw [if_neg (show ¬ (281 : Int) = 0 by decide)]
    exact ⟨rfl, rfl, hw⟩

theorem emptied_live {d : D} {o : Nat} (h : d.dead = false) (ho : o ≤ 1) (hw : CutWaits o d) :
    ((Em.emptied d o).2 = 281 ∧ (Em.emptied d o).1.lasts = d.lasts ∧ CutWaits o (Em.emptied d o).1) ∨
    ((Em.emptied d o).2 = 0 ∧ (Em.emptied d o).1.lasts = d.lasts ∧ (Em.emptied d o).1.dead = false ∧ (((Em.emptied d o).1.waits = [] ∧ d.lasts.tp o = []) ∨ (Em.emptied d o).1.waits = [sCut o])) := by
  unfold Em.emptied
  by_cases hl : (d.stand.tp o).length = 0
  · rw [if_pos hl]
    refine Or.inr ⟨rfl, rfl, h, ?_⟩
    rcases hw with hw | hw
    · refine Or.inl ⟨hw, ?_⟩
      unfold D.stand at hl
      rw [hw] at hl
      exact List.eq_nil_of_length_eq_zero hl
    · exact Or.inr hw
  · rw [if_neg hl]
    have hw : d.waits = [] := by
      rcases hw with hw | hw
      · exact hw
      · exfalso
        apply hl
        unfold D.stand
        rw [hw]
        simp [St.done, upd]
    rcases cutd_live h ho with ⟨s, e⟩ | ⟨s, e⟩
    · rw [e]
      exact Or.inr ⟨rfl, rfl, h, Or.inr (by show d.waits ++ _ = _; rw [hw]; rfl)⟩
    · rw [e]
      exact Or.inl ⟨rfl, rfl, Or.inl hw⟩

theorem rewrote_live {d : D} {t o : Nat} (h : d.dead = false) (ho : o ≤ 1) (hto : t ≠ o) (hw : CutWaits o d) (b : List UInt8) :
    ((Em.rewrote d o b).2 = 280 ∧ (Em.rewrote d o b).1.dead = false ∧ (Em.rewrote d o b).1.lasts = d.lasts ∧ CutWaits o (Em.rewrote d o b).1) ∨
    ((Em.rewrote d o b).2 = 281 ∧ (Em.rewrote d o b).1.lasts = d.lasts ∧ CutWaits o (Em.rewrote d o b).1) ∨
    ((Em.rewrote d o b).2 = 281 ∧ (Em.rewrote d o b).1.lasts = d.lasts ∧ (((Em.rewrote d o b).1.waits = [sApp o b] ∧ d.lasts.tp o = []) ∨ (Em.rewrote d o b).1.waits = [sCut o, sApp o b])) ∨
    ((Em.rewrote d o b).2 = 0 ∧ (Em.rewrote d o b).1.dead = false ∧ (Em.rewrote d o b).1.waits = [] ∧ (Em.rewrote d o b).1.lasts.tp t = d.lasts.tp t ∧ (Em.rewrote d o b).1.lasts.tp o = b) := by
  have hne : (o : Int) ≠ t := by omega
  have hne' : (t : Int) ≠ o := by omega
  unfold Em.rewrote
  rcases emptied_live h ho hw with ⟨e1, e2, e3⟩ | ⟨e1, e2, e3, e4⟩
  · refine Or.inr (Or.inl ?_)
    have hn : Em.next (Em.emptied d o) (fun d => d.append o b) = Em.emptied d o := if_neg (by rw [e1]; decide)
    have hn2 : Em.next (Em.emptied d o) D.sync = Em.emptied d o := if_neg (by rw [e1]; decide)
    rw [hn, hn2]
    exact ⟨e1, e2, e3⟩
  · generalize Em.emptied d o = r at e1 e2 e3 e4
    obtain ⟨d1, er⟩ := r
    simp only at e1 e2 e3 e4
    subst e1
    have hn : Em.next (d1, 0) (fun d => d.append o b) = d1.append o b := if_pos rfl
    rw [hn]
    have c1 : CutWaits o d1 := e4.imp (fun h => h.1) id
    rcases appendd_live e3 ho b with e | ⟨s, e⟩ | ⟨s, e⟩
    · rw [e]
      refine Or.inl ?_
      have hn : Em.next (d1, 280) D.sync = (d1, 280) := if_neg (show ¬ (280 : Int) = 0 by decide)
      rw [hn]
      exact ⟨rfl, e3, e2, c1⟩
    · rw [e]
      have hn : Em.next (({ d1 with stops := s, waits := d1.waits ++ [sApp o b] } : D), 0) D.sync = ({ d1 with stops := s, waits := d1.waits ++ [sApp o b] } : D).sync := if_pos rfl
      rw [hn]
      have hd : ({ d1 with stops := s, waits := d1.waits ++ [sApp o b] } : D).dead = false := e3
      rcases syncd_live hd with ⟨s', e'⟩ | ⟨s', e'⟩
      · rw [e']
        refine Or.inr (Or.inr (Or.inr ⟨rfl, e3, rfl, ?_, ?_⟩))
        · show ((d1.waits ++ [sApp o b]).foldl St.done d1.lasts).tp t = _
          rw [e2]
          rcases e4 with ⟨hw, _⟩ | hw
          · rw [hw]; simp [St.done, upd, hne']
          · rw [hw]; simp [St.done, upd, hne']
        · show ((d1.waits ++ [sApp o b]).foldl St.done d1.lasts).tp o = _
          rw [e2]
          rcases e4 with ⟨hw, hl⟩ | hw
          · rw [hw]; simp [St.done, upd, hl]
          · rw [hw]; simp [St.done, upd]
      · rw [e']
        refine Or.inr (Or.inr (Or.inl ⟨rfl, e2, ?_⟩))
        show (d1.waits ++ [sApp o b] = _ ∧ _) ∨ d1.waits ++ [sApp o b] = _
        rcases e4 with ⟨hw, hl⟩ | hw
        · rw [hw]; exact Or.inl ⟨rfl, hl⟩
        · rw [hw]; exact Or.inr rfl
    · rw [e]
      refine Or.inr (Or.inl ?_)
      have hn : Em.next (({ d1 with dead := true, stops := s } : D), 281) D.sync = (({ d1 with dead := true, stops := s } : D), 281) := if_neg (show ¬ (281 : Int) = 0 by decide)
      rw [hn]
      exact ⟨rfl, e2, c1⟩

end Go.Proofs.YtgffifleflkjoaaGreat

namespace Go.Proofs.YtgffifleflkjoaaGreat
open Dm Em Go.Maps

/-- An engine that goes on. -/
structure Sound (e : E) : Prop where
  good : e.good
  tidy : Tidy e.rows
  gone : e.gone = false
  dead : e.d.dead = false
  live : ∃ D1, TRuns (e.d.lasts.tp e.tp) e.gen D1 e.batches ∧ tell D1 = tell e.rows
  fin : e.fin = (e.d.lasts.tp e.tp).length
  old : (rtape (e.d.lasts.tp (1 - e.tp : Nat))).gen < e.gen
  waits : CutWaits (1 - e.tp) e.d

/-- Open of what stands takes rows that tell so. -/
def TellsSo (x : St) (R : Pairs) : Prop := (bestT (fun k => rtape (x.tp k)) 2).2.gen ≠ 0 ∧ tell (bestT (fun k => rtape (x.tp k)) 2).2.rows = R

theorem bestT_of {ts : Nat → Em.T} {t : Nat} (ht : t ≤ 1) (h : (ts (1 - t)).gen < (ts t).gen) : bestT ts 2 = (t, ts t) := by
  have z : Em.T.none.gen = 0 := rfl
  have h1 : bestT ts 1 = if 0 < (ts 0).gen then (0, ts 0) else (0, Em.T.none) := rfl
  have h2 : bestT ts 2 = if (bestT ts 1).2.gen < (ts 1).gen then (1, ts 1) else bestT ts 1 := rfl
  rcases Nat.lt_or_ge t 1 with h0 | h0
  · have e : t = 0 := by omega
    subst e
    have h : (ts 1).gen < (ts 0).gen := h
    have hz : 0 < (ts 0).gen := by omega
    rw [h2, h1, if_pos hz]
    exact if_neg (by show ¬ (ts 0).gen < (ts 1).gen; omega)
  · have e : t = 1 := by omega
    subst e
    have h : (ts 0).gen < (ts 1).gen := h
    rw [h2, h1]
    by_cases hz : 0 < (ts 0).gen
    · rw [if_pos hz]
      exact if_pos h
    · rw [if_neg hz]
      exact if_pos (by show 0 < (ts 1).gen; omega)

theorem tells_of {x : St} {t : Nat} {R : Pairs} (ht : t ≤ 1) (h : (rtape (x.tp (1 - t : Nat))).gen < (rtape (x.tp t)).gen) (hr : tell (rtape (x.tp t)).rows = R) : TellsSo x R := by
  have e := bestT_of (ts := fun k => rtape (x.tp k)) ht h
  unfold TellsSo
  rw [e]
  exact ⟨by show (rtape (x.tp t)).gen ≠ 0; omega, hr⟩

/-- The live tape is as it was; the other one is, or is empty. -/
theorem tells_same {x y : St} {t g n : Nat} {D1 : Em.Rows} {R : Pairs} (ht : t ≤ 1) (h : TRuns (y.tp t) g D1 n) (hR : tell D1 = R) (ho : (rtape (y.tp (1 - t : Nat))).gen < g) (x1 : x.tp t = y.tp t) (x2 : x.tp (1 - t : Nat) = y.tp (1 - t : Nat) ∨ x.tp (1 - t : Nat) = []) : TellsSo x R := by
  refine tells_of ht ?_ ?_
  · rw [x1, runs_whole h]
    rcases x2 with x2 | x2
    · rw [x2]; exact ho
    · rw [x2, rtape_nil]; exact h.g0
  · rw [x1, runs_whole h]; exact hR

/-- A batch is laid, torn, or lost. -/
theorem tells_app {x y : St} {t g n k : Nat} {D1 : Em.Rows} {l : List Change} {R : Pairs} (ht : t ≤ 1) (h : TRuns (y.tp t) g D1 n) (hR : tell D1 = R) (ho : (rtape (y.tp (1 - t : Nat))).gen < g) (hd : doneErr D1 l = 0) (hb : (batchBody l).length ≤ 8192)
    (x1 : x.tp t = y.tp t ++ (Wm.frame (batchBody l)).take k) (x2 : x.tp (1 - t : Nat) = y.tp (1 - t : Nat) ∨ x.tp (1 - t : Nat) = []) : TellsSo x R ∨ TellsSo x (tell (behind D1 l)) := by
  have other : ∀ G, G = g → (rtape (x.tp (1 - t : Nat))).gen < G := by
    rintro _ rfl
    rcases x2 with x2 | x2
    · rw [x2]; exact ho
    · rw [x2, rtape_nil]; exact h.g0
  by_cases hk : k < (Wm.frame (batchBody l)).length
  · left
    have e : rtape (x.tp t) = ⟨g, D1, n, (y.tp t).length⟩ := by rw [x1]; exact runs_torn h hb hk
    refine tells_of ht (other _ ?_) ?_ <;> rw [e]
    exact hR
  · right
    rw [List.take_of_length_le (by omega)] at x1
    have e := runs_whole (runs_batch h hd hb)
    rw [← x1] at e
    refine tells_of ht (other _ ?_) ?_ <;> rw [e]

/-- A folded tape is laid, torn, or lost. -/
theorem tells_fold {x y : St} {t g n : Nat} {D1 D : Em.Rows} {R : Pairs} (ht : t ≤ 1) (h : TRuns (y.tp t) g D1 n) (hR : tell D1 = R) (ho : (rtape (y.tp (1 - t : Nat))).gen < g) (hD : RowsOk D) (hT : Tidy D) (hs : Maps.size D ≤ 256) (hg : g + 1 ≤ 2147483647)
    (x1 : x.tp t = y.tp t) (x2 : x.tp (1 - t : Nat) = y.tp (1 - t : Nat) ∨ ∃ k, x.tp (1 - t : Nat) = (folded (g + 1) D).take k) : TellsSo x R ∨ TellsSo x (tell D) := by
  rcases x2 with x2 | ⟨k, x2⟩
  · exact Or.inl (tells_same ht h hR ho x1 (Or.inl x2))
  · by_cases hk : k < (folded (g + 1) D).length
    · left
      refine tells_of ht ?_ ?_
      · rw [x1, runs_whole h, x2, rtape_torn hD hT hs (by omega) hg hk]
        exact h.g0
      · rw [x1, runs_whole h]; exact hR
    · right
      rw [List.take_of_length_le (by omega)] at x2
      have e := runs_whole (runs_folded hD hT hs (Nat.succ_pos g) hg)
      rw [← x2] at e
      have h1 : 1 - (1 - t) = t := by omega
      refine tells_of (t := 1 - t) (by omega) ?_ ?_
      · rw [h1, x1, runs_whole h, e]; exact Nat.lt_succ_self g
      · rw [e]; exact tell_again hD hT

theorem waits_tells {d : D} {t g n : Nat} {D1 : Em.Rows} {R : Pairs} (ht : t ≤ 1) (h : TRuns (d.lasts.tp t) g D1 n) (hR : tell D1 = R) (ho : (rtape (d.lasts.tp (1 - t : Nat))).gen < g) (hw : CutWaits (1 - t) d) (c : Crash) : TellsSo (d.crash c).stand R := by
  rcases hw with hw | hw
  · rw [crashd_none hw]
    exact tells_same ht h hR ho rfl (Or.inl rfl)
  · obtain ⟨c1, c2⟩ := crash_cut hw c
    exact tells_same ht h hR ho (c1 _ (by omega)) c2

theorem Sound.tells {e : E} (h : Sound e) (c : Crash) : TellsSo (e.d.crash c).stand (tell e.rows) := by
  obtain ⟨D1, r, hR⟩ := h.live
  exact waits_tells h.good.tp r hR h.old h.waits c

/-- What a commit may end in, of rows that were R, and are D behind it. -/
def After (R : Pairs) (D : Em.Rows) (r : E × Int) : Prop :=
  (r.2 ≠ 281 → Sound r.1) ∧ (r.2 = 281 → ∀ c, TellsSo (r.1.d.crash c).stand R ∨ TellsSo (r.1.d.crash c).stand (tell D))

theorem batched_frame {l : List Change} (h : (batched l).length ≠ 0) : (batchBody l).length ≤ 8192 ∧ batched l = Wm.frame (batchBody l) := by
  have hb : batched l = framed (batchBody l) := rfl
  by_cases hl : 8192 < (batchBody l).length
  · rw [hb, framed, if_pos hl] at h
    exact absurd rfl h
  · exact ⟨by omega, by rw [hb, framed_some (by omega)]⟩

theorem put_after {e : E} {l : List Change} (h : Sound e) (hd : doneErr e.rows l = 0) : After (tell e.rows) (behind e.rows l) (e.put (behind e.rows l) (batched l)) := by
  have hg := put_good (D := behind e.rows l) (b := batched l) h.good (rowsOk_behind h.good.rows (doneErr_zero hd).1) (doneErr_zero hd).2 (framed_len _)
  by_cases q : 32 ≤ e.batches ∨ (batched l).length = 0 ∨ e.d.room / 2 < e.fin + (batched l).length
  · rw [put_full q] at hg ⊢
    exact ⟨fun _ => h, fun e => by cases e⟩
  · have hb : (batched l).length ≠ 0 := by omega
    obtain ⟨b1, b2⟩ := batched_frame hb
    obtain ⟨D1, r, hR⟩ := h.live
    obtain ⟨s1, s2⟩ := same_tell h.good.rows h.tidy r.rows r.tidy hR.symm l
    have hd1 : doneErr D1 l = 0 := by rw [← s1]; exact hd
    have ht1 : tell (behind D1 l) = tell (behind e.rows l) := (s2 hd).symm
    have hlive := put_live (e := e) (D := behind e.rows l) (b := batched l) q
    have htp := h.good.tp
    rw [hlive] at hg ⊢
    rcases wrote_live (t := e.tp) (o := 1 - e.tp) h.dead htp (by omega) h.waits (batched l) with w | ⟨w1, w2, w3⟩ | ⟨w1, w2, w3⟩ | ⟨w1, w2, w3, w4, w5⟩
    · simp only [w] at hg ⊢
      refine ⟨fun _ => ?_, fun e => by cases e⟩
      exact ⟨hg, h.tidy, h.gone, h.dead, h.live, h.fin, h.old, h.waits⟩
    · refine ⟨fun hne => absurd w1 hne, fun _ c => Or.inl ?_⟩
      refine waits_tells (d := (wrote e.d e.tp (batched l)).1) htp (by rw [w2]; exact r) hR (by rw [w2]; exact h.old) w3 c
    · refine ⟨fun hne => absurd w1 hne, fun _ c => ?_⟩
      rw [← ht1]
      rw [b2] at w2 w3
      show TellsSo ((wrote e.d e.tp (batched l)).1.crash c).stand _ ∨ TellsSo ((wrote e.d e.tp (batched l)).1.crash c).stand _
      rw [b2]
      rcases w3 with w3 | w3
      · obtain ⟨c1, k, c2⟩ := crash_app w3 c
        rw [w2] at c2
        exact tells_app htp r hR h.old hd1 b1 c2 (Or.inl (by rw [c1 _ (by omega), w2]))
      · obtain ⟨c1, k, c2⟩ := crash_cut_app (by omega) w3 c
        rw [w2] at c1 c2
        exact tells_app htp r hR h.old hd1 b1 c2 c1
    · simp only [if_pos w1] at hg ⊢
      refine ⟨fun _ => ?_, fun e => by rw [w1] at e; cases e⟩
      have r2 := runs_batch r hd1 b1
      rw [← b2, ← w4] at r2
      refine ⟨hg, (tell_fold (right_zero (doneErr_zero hd).1).2 h.good.rows h.tidy).2, h.gone, w2, ⟨_, r2, ht1⟩, ?_, ?_, Or.inl w3⟩
      · show e.fin + _ = ((wrote e.d e.tp (batched l)).1.lasts.tp e.tp).length
        rw [w4, List.length_append, h.fin]
      · show (rtape ((wrote e.d e.tp (batched l)).1.lasts.tp (1 - e.tp : Nat))).gen < e.gen
        rcases w5 with w5 | w5
        · rw [w5]; exact h.old
        · rw [w5, rtape_nil]; exact r.g0

theorem fold_after {e : E} {D : Em.Rows} (h : Sound e) (hD : RowsOk D) (hT : Tidy D) (hs : Maps.size D ≤ 256) : After (tell e.rows) D (e.fold D) := by
  have hg := fold_good h.good hD hs
  by_cases q : 2147483647 ≤ e.gen
  · rw [fold_full q]
    exact ⟨fun _ => h, fun e => by cases e⟩
  · obtain ⟨D1, r, hR⟩ := h.live
    have htp := h.good.tp
    have hlive := fold_live (e := e) (D := D) q
    rw [hlive] at hg ⊢
    rcases rewrote_live (t := e.tp) (o := 1 - e.tp) h.dead (by omega) (by omega) h.waits (folded (e.gen + 1) D) with ⟨w1, w2, w3, w4⟩ | ⟨w1, w2, w3⟩ | ⟨w1, w2, w3⟩ | ⟨w1, w2, w3, w4, w5⟩
    · have hne : ¬ (rewrote e.d (1 - e.tp) (folded (e.gen + 1) D)).2 = 0 := by rw [w1]; decide
      simp only [if_neg hne] at hg ⊢
      refine ⟨fun _ => ⟨hg, h.tidy, h.gone, w2, ?_, ?_, ?_, w4⟩, fun e => by rw [w1] at e; cases e⟩
      · exact ⟨D1, by show TRuns ((rewrote e.d (1 - e.tp) (folded (e.gen + 1) D)).1.lasts.tp e.tp) _ _ _; rw [w3]; exact r, hR⟩
      · show e.fin = ((rewrote e.d (1 - e.tp) (folded (e.gen + 1) D)).1.lasts.tp e.tp).length
        rw [w3]; exact h.fin
      · show (rtape ((rewrote e.d (1 - e.tp) (folded (e.gen + 1) D)).1.lasts.tp (1 - e.tp : Nat))).gen < e.gen
        rw [w3]; exact h.old
    · have hne : ¬ (rewrote e.d (1 - e.tp) (folded (e.gen + 1) D)).2 = 0 := by rw [w1]; decide
      simp only [if_neg hne]
      refine ⟨fun hn => absurd w1 hn, fun _ c => Or.inl ?_⟩
      exact waits_tells (d := (rewrote e.d (1 - e.tp) (folded (e.gen + 1) D)).1) htp (by rw [w2]; exact r) hR (by rw [w2]; exact h.old) w3 c
    · have hne : ¬ (rewrote e.d (1 - e.tp) (folded (e.gen + 1) D)).2 = 0 := by rw [w1]; decide
      simp only [if_neg hne]
      refine ⟨fun hn => absurd w1 hn, fun _ c => ?_⟩
      rcases w3 with ⟨w3, hl⟩ | w3
      · obtain ⟨c1, k, c2⟩ := crash_app w3 c
        rw [w2, hl, List.nil_append] at c2
        exact tells_fold htp r hR h.old hD hT hs (by omega) (by rw [c1 _ (by omega), w2]) (Or.inr ⟨k, c2⟩)
      · obtain ⟨c1, c2⟩ := crash_cut_same w3 c
        rw [w2] at c2
        exact tells_fold htp r hR h.old hD hT hs (by omega) (by rw [c1 _ (by omega), w2]) c2
    · simp only [if_pos w1] at hg ⊢
      refine ⟨fun _ => ?_, fun e => by rw [w1] at e; cases e⟩
      have r2 := runs_folded (g := e.gen + 1) hD hT hs (by omega) (by omega)
      rw [← w5] at r2
      have h1 : 1 - (1 - e.tp) = e.tp := by omega
      refine ⟨hg, hT, h.gone, w2, ⟨_, r2, tell_again hD hT⟩, ?_, ?_, Or.inl w3⟩
      · show (folded (e.gen + 1) D).length = ((rewrote e.d (1 - e.tp) (folded (e.gen + 1) D)).1.lasts.tp (1 - e.tp : Nat)).length
        rw [w5]
      · show (rtape ((rewrote e.d (1 - e.tp) (folded (e.gen + 1) D)).1.lasts.tp (1 - (1 - e.tp) : Nat))).gen < e.gen + 1
        rw [h1, w4, runs_whole r]
        exact Nat.lt_succ_self _

theorem step_after {e : E} {l : List Change} (h : Sound e) (hd : doneErr e.rows l = 0) : After (tell e.rows) (behind e.rows l) (e.step (behind e.rows l) (batched l)) := by
  have hp := put_after h hd
  unfold E.step
  by_cases q : (e.put (behind e.rows l) (batched l)).2 = 280
  · rw [if_pos q]
    have hs := hp.1 (by rw [q]; decide)
    have hr : (e.put (behind e.rows l) (batched l)).1.rows = e.rows := by rw [put_rows, if_neg (by rw [q]; decide)]
    have := fold_after (D := behind e.rows l) hs (rowsOk_behind h.good.rows (doneErr_zero hd).1) (tell_fold (right_zero (doneErr_zero hd).1).2 h.good.rows h.tidy).2 (doneErr_zero hd).2
    rw [hr] at this
    exact this
  · rw [if_neg q]; exact hp

/-- A commit: an engine that goes on, unless it is dead; then a crash leaves the rows ahead or behind. -/
theorem commit_after {e : E} {l : List Change} (h : Sound e) :
    ((e.commit l).2 ≠ 281 → Sound (e.commit l).1) ∧ ((e.commit l).2 = 281 → (e.commit l).1.gone = true ∧ doneErr e.rows l = 0 ∧ ∀ c, TellsSo ((e.commit l).1.d.crash c).stand (tell e.rows) ∨ TellsSo ((e.commit l).1.d.crash c).stand (tell (behind e.rows l))) := by
  unfold E.commit
  by_cases q : doneErr e.rows l ≠ 0
  · rw [if_pos q]
    refine ⟨fun _ => h, fun e281 => ?_⟩
    exfalso
    have e281 : doneErr e.rows l = 281 := e281
    unfold doneErr right at e281
    repeat' split at e281
    all_goals cases e281
  · rw [if_neg q, if_neg (by rw [h.gone]; decide)]
    have q : doneErr e.rows l = 0 := by omega
    obtain ⟨s1, s2⟩ := step_after h q
    refine ⟨fun hn => ?_, fun he => ?_⟩
    · have hn : (e.step (behind e.rows l) (batched l)).2 ≠ 281 := hn
      have s := s1 hn
      exact ⟨⟨s.good.tp, s.good.gen, s.good.batches, s.good.fin, s.good.rows, s.good.few⟩, s.tidy, by show decide _ = false; simp [hn], s.dead, s.live, s.fin, s.old, s.waits⟩
    · have he : (e.step (behind e.rows l) (batched l)).2 = 281 := he
      exact ⟨by show decide _ = true; simp [he], q, s2 he⟩

end Go.Proofs.YtgffifleflkjoaaGreat

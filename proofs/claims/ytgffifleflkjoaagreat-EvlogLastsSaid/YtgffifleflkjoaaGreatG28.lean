/-
  evlog, plain: what is laid is read back; what is torn is none.
  wire: the first number of bytes, of more than one.
  wire: the first number of bytes, whatever they are; the first frame.
  wire: the first frame of bytes.
  wire: a reader in memory; what takes bytes off it.
  wire: a number off a reader; which bound may be; whether there is a reader.
-/
import Derived.Test.YtgffifleflkjoaaGreatG13
import Derived.Test.YtgffifleflkjoaaGreatG14
import Derived.Test.YtgffifleflkjoaaGreatG20
import Derived.Test.YtgffifleflkjoaaGreatG22
import Derived.Test.YtgffifleflkjoaaGreatG27

namespace Go.Proofs.YtgffifleflkjoaaGreat.Em
open Go.Maps Cm

theorem rchange_laid {c : Change} (h1 : c.wrong = false) (h2 : c.long = false) (rest : Bytes) : rchange (laid c ++ rest) = some (c, rest) := by
  obtain ⟨k1, k2⟩ := wrong_not h1
  obtain ⟨k3, k4⟩ := long_not h2
  obtain ⟨k, v, g⟩ := c
  unfold rchange laid
  rw [List.append_assoc, List.append_assoc, Wm.rtruth_wtruth]
  simp only
  rw [Wm.rtext_wtext (show k.length ≤ 64 from k3) (by decide)]
  simp only
  cases g
  · simp only [Bool.false_eq_true, if_false]
    rw [Wm.rtext_wtext (show v.length ≤ 4096 from k4) (by decide)]
  · simp only [if_true, List.nil_append]
    have : v = [] := k2 rfl
    rw [this]

theorem rchanges_laid : ∀ (l : List Change), (∀ c ∈ l, c.wrong = false ∧ c.long = false) → ∀ rest : Bytes, rchanges l.length (l.flatMap laid ++ rest) = some (l, rest)
  | [], _, rest => rfl
  | c :: l, h, rest => by
    obtain ⟨h1, h2⟩ := h c (List.mem_cons_self ..)
    rw [List.length_cons, rchanges, List.flatMap_cons, List.append_assoc, rchange_laid h1 h2]
    simp only
    rw [rchanges_laid l (fun x hx => h x (List.mem_cons_of_mem _ hx))]
    rfl

theorem rbatch_body {l : List Change} (h : right l = 0) : rbatch (batchBody l) = some l := by
  obtain ⟨h1, h2⟩ := right_zero h
  unfold rbatch batchBody
  rw [List.append_assoc, Wm.rnum_wnum (by decide) (by decide)]
  simp only
  rw [if_neg (by decide), Wm.rnum_wnum h1 (by decide)]
  simp only
  have := rchanges_laid l h2 []
  rw [List.append_nil] at this
  rw [this]
  simp

def rowBody (k v : Bytes) : Bytes := Wm.wnum 2 ++ Wm.wtext k ++ Wm.wtext v

theorem rowBody_le {k v : Bytes} (h1 : k.length ≤ 64) (h2 : v.length ≤ 4096) : (rowBody k v).length ≤ 8192 := by
  have k1 := wtext_len k
  have k2 := wtext_len v
  have k3 := (wnum_len 2).1
  unfold rowBody
  rw [List.length_append, List.length_append]
  omega

theorem rrow_body {last k v : Bytes} (h1 : k.length ≤ 64) (h2 : v.length ≤ 4096) (hl : ¬ k ≤ last) : rrow last (rowBody k v) = some (k, v) := by
  unfold rrow rowBody
  rw [List.append_assoc, Wm.rnum_wnum (by decide) (by decide)]
  simp only
  rw [if_neg (by decide), Wm.rtext_wtext h1 (by decide)]
  simp only
  have := Wm.rtext_wtext h2 (by decide) []
  rw [List.append_nil] at this
  rw [this]
  simp only
  rw [if_pos ⟨trivial, hl⟩]

def headBody (g n : Nat) : Bytes := Wm.wnum 1 ++ Wm.wnum g ++ Wm.wnum n

theorem headBody_le (g n : Nat) : (headBody g n).length ≤ 8192 := by
  have k1 := (wnum_len 1).1
  have k2 := (wnum_len g).1
  have k3 := (wnum_len n).1
  unfold headBody
  rw [List.length_append, List.length_append]
  omega

theorem rhead_body {g n : Nat} (h0 : 0 < g) (h1 : g ≤ 2147483647) (h2 : n ≤ 256) : rhead (headBody g n) = some (g, n) := by
  unfold rhead headBody
  rw [List.append_assoc, Wm.rnum_wnum (by decide) (by decide)]
  simp only
  rw [if_neg (by decide), Wm.rnum_wnum h1 (by decide)]
  simp only
  have := Wm.rnum_wnum h2 (by decide) []
  rw [List.append_nil] at this
  rw [this]
  simp only
  rw [if_pos ⟨trivial, h0⟩]

/-- Rows, put one behind another. -/
def puts (v : Bytes → Bytes) (D : Rows) (ks : List Bytes) : Rows := ks.foldl (fun D k => D.put (.string k) (.lit (.string (v k)))) D

def laidRows (v : Bytes → Bytes) (ks : List Bytes) : Bytes := ks.flatMap fun k => Wm.frame (rowBody k (v k))

theorem laidRows_cons (v : Bytes → Bytes) (k : Bytes) (ks : List Bytes) : laidRows v (k :: ks) = Wm.frame (rowBody k (v k)) ++ laidRows v ks := rfl

/-- Keys that may be, and rise from one on. -/
def Rise (v : Bytes → Bytes) (last : Bytes) (ks : List Bytes) : Prop := (∀ k ∈ ks, k.length ≤ 64 ∧ (v k).length ≤ 4096 ∧ ¬ k ≤ last) ∧ ks.Pairwise (fun a b => ¬ b ≤ a)

theorem Rise.tail {v : Bytes → Bytes} {last k : Bytes} {ks : List Bytes} (h : Rise v last (k :: ks)) : Rise v k ks := by
  obtain ⟨h1, h2⟩ := h
  obtain ⟨h3, h4⟩ := List.pairwise_cons.1 h2
  exact ⟨fun x hx => ⟨(h1 x (List.mem_cons_of_mem _ hx)).1, (h1 x (List.mem_cons_of_mem _ hx)).2.1, h3 x hx⟩, h4⟩

theorem rrows_laid {L rest : Bytes} {v : Bytes → Bytes} : ∀ (ks : List Bytes) {last : Bytes} {fin : Nat} {D : Rows}, Rise v last ks → L.drop fin = laidRows v ks ++ rest → rrows L ks.length fin last D = some (puts v D ks, fin + (laidRows v ks).length)
  | [], last, fin, D, _, _ => rfl
  | k :: ks, last, fin, D, h, hd => by
    obtain ⟨k1, k2, k3⟩ := h.1 k (List.mem_cons_self ..)
    rw [laidRows_cons, List.append_assoc] at hd
    rw [List.length_cons, rrows, hd, Wm.split_frame (rowBody_le k1 k2)]
    simp only
    rw [rrow_body k1 k2 k3]
    simp only
    have hd' : L.drop (fin + (Wm.frame (rowBody k (v k))).length) = laidRows v ks ++ rest := by
      rw [← List.drop_drop, hd]
      simp
    rw [rrows_laid ks h.tail hd', laidRows_cons, List.length_append, Nat.add_assoc]
    rfl

theorem rrows_torn {L : Bytes} {v : Bytes → Bytes} : ∀ (ks : List Bytes) {last : Bytes} {fin n : Nat} {D : Rows}, Rise v last ks → n < (laidRows v ks).length → L.drop fin = (laidRows v ks).take n → rrows L ks.length fin last D = none
  | [], _, _, n, _, _, hn, _ => absurd hn (Nat.not_lt_zero _)
  | k :: ks, last, fin, n, D, h, hn, hd => by
    obtain ⟨k1, k2, k3⟩ := h.1 k (List.mem_cons_self ..)
    rw [laidRows_cons] at hd hn
    rw [List.length_append] at hn
    by_cases hc : n < (Wm.frame (rowBody k (v k))).length
    · rw [List.take_append_of_le_length (by omega)] at hd
      rw [List.length_cons, rrows, hd, Wm.split_torn (rowBody_le k1 k2) hc]
    · rw [List.take_append, List.take_of_length_le (by omega)] at hd
      rw [List.length_cons, rrows, hd, Wm.split_frame (rowBody_le k1 k2)]
      simp only
      rw [rrow_body k1 k2 k3]
      simp only
      have hd' : L.drop (fin + (Wm.frame (rowBody k (v k))).length) = (laidRows v ks).take (n - (Wm.frame (rowBody k (v k))).length) := by
        rw [← List.drop_drop, hd]
        simp
      exact rrows_torn ks h.tail (by omega) hd'

theorem has_puts {v : Bytes → Bytes} : ∀ (ks : List Bytes) {D : Rows}, Tidy D → ∀ k : Bytes, has (puts v D ks) (.string k) = (decide (k ∈ ks) || has D (.string k))
  | [], D, _, k => by simp [puts]
  | a :: ks, D, ht, k => by
    have h' : Tidy (D.put (.string a) (.lit (.string (v a)))) := ht.put (show WideAt.IsKeyLit (.string a) from trivial) _
    show has (puts v (D.put (.string a) (.lit (.string (v a)))) ks) (.string k) = _
    rw [has_puts ks h']
    by_cases e : k = a
    · subst e
      rw [has_put_same ht.isMap (show WideAt.IsKeyLit (.string k) from trivial)]
      simp
    · rw [has_put_other (fun h => e (by cases h; rfl))]
      simp [e]

theorem valueOf_puts {v : Bytes → Bytes} : ∀ (ks : List Bytes) {D : Rows}, Tidy D → ∀ k : Bytes, valueOf (puts v D ks) k = if k ∈ ks then v k else valueOf D k
  | [], D, _, k => by simp [puts]
  | a :: ks, D, ht, k => by
    have h' : Tidy (D.put (.string a) (.lit (.string (v a)))) := ht.put (show WideAt.IsKeyLit (.string a) from trivial) _
    show valueOf (puts v (D.put (.string a) (.lit (.string (v a)))) ks) k = _
    rw [valueOf_puts ks h']
    by_cases e : k = a
    · subst e
      have e1 : valueOf (D.put (.string k) (.lit (.string (v k)))) k = v k := by unfold valueOf; rw [atKey_put_same ht.isMap (show WideAt.IsKeyLit (.string k) from trivial)]
      rw [e1]
      simp
    · have hk' : (Lit.string k) ≠ .string a := fun h => e (by cases h; rfl)
      have e1 : valueOf (D.put (.string a) (.lit (.string (v a)))) k = valueOf D k := by unfold valueOf; rw [atKey_put_other hk']
      rw [e1]
      simp [e]

theorem puts_ok {v : Bytes → Bytes} : ∀ (ks : List Bytes) {D : Rows}, RowsOk D → Tidy D → (∀ k ∈ ks, k ≠ [] ∧ k.length ≤ 64 ∧ (v k).length ≤ 4096) → RowsOk (puts v D ks) ∧ Tidy (puts v D ks)
  | [], D, h, ht, _ => ⟨h, ht⟩
  | a :: ks, D, h, ht, hk => by
    obtain ⟨k1, k2, k3⟩ := hk a (List.mem_cons_self ..)
    have e : one D ⟨a, v a, false⟩ = D.put (.string a) (.lit (.string (v a))) := by unfold one; rw [if_neg (by simp)]
    have r1 : RowsOk (D.put (.string a) (.lit (.string (v a)))) := by
      rw [← e]
      refine rowsOk_one h ?_ ?_
      · cases a with
        | nil => exact absurd rfl k1
        | cons b a => rfl
      · unfold Change.long
        simp
        omega
    exact puts_ok ks r1 (ht.put (show WideAt.IsKeyLit (.string a) from trivial) _) (fun k h => hk k (List.mem_cons_of_mem _ h))

/-- What a folded tape tells. -/
def again (D : Rows) : Rows := puts (valueOf D) (.map []) (skeys D)

theorem again_ok {D : Rows} (h : RowsOk D) : RowsOk (again D) ∧ Tidy (again D) :=
  puts_ok _ rowsOk_none tidy_empty (fun k hk => ⟨(skeys_mem h hk).1, (skeys_mem h hk).2, valueOf_len h k⟩)

theorem tell_again {D : Rows} (h : RowsOk D) (ht : Tidy D) : tell (again D) = tell D := by
  obtain ⟨a1, a2⟩ := again_ok h
  refine strict_ext (tell_strict a1 a2) (tell_strict h ht) (fun x => ?_)
  rw [mem_tell a1, mem_tell h]
  unfold again
  rw [has_puts _ tidy_empty, valueOf_puts _ tidy_empty]
  have h0 : has (.map [] : Rows) (.string x.1) = false := rfl
  rw [h0, Bool.or_false, decide_eq_true_eq, ← skeys_has h]
  constructor
  · rintro ⟨k1, k2⟩
    rw [if_pos k1] at k2
    exact ⟨k1, k2⟩
  · rintro ⟨k1, k2⟩
    rw [if_pos k1]
    exact ⟨k1, k2⟩

theorem rise_skeys {D : Rows} (h : RowsOk D) (ht : Tidy D) : Rise (valueOf D) [] (skeys D) := by
  refine ⟨fun k hk => ⟨(skeys_mem h hk).2, valueOf_len h k, fun hl => (skeys_mem h hk).1 (List.le_antisymm hl (List.nil_le _))⟩, ?_⟩
  have hs := tell_strict h ht
  unfold Strict tell at hs
  rw [List.pairwise_map] at hs
  exact hs.imp (fun hab hba => hab.2 (List.le_antisymm hab.1 hba))

theorem folded_eq {D : Rows} (g : Nat) (h : RowsOk D) : folded g D = Wm.frame (headBody g (size D)) ++ laidRows (valueOf D) (skeys D) := by
  have e1 : framed (Wm.wnum 1 ++ Wm.wnum g ++ Wm.wnum (size D)) = Wm.frame (headBody g (size D)) := framed_some (headBody_le g (size D))
  have e2 : (skeys D).flatMap (rowOf D) = laidRows (valueOf D) (skeys D) := by
    have : ∀ ks : List Bytes, (∀ k ∈ ks, k.length ≤ 64) → ks.flatMap (rowOf D) = laidRows (valueOf D) ks := by
      intro ks
      induction ks with
      | nil => exact fun _ => rfl
      | cons k ks ih =>
        intro hk
        rw [List.flatMap_cons, laidRows_cons, ih (fun x hx => hk x (List.mem_cons_of_mem _ hx))]
        congr 1
        exact framed_some (rowBody_le (hk k (List.mem_cons_self ..)) (valueOf_len h k))
    exact this _ (fun k hk => (skeys_mem h hk).2)
  unfold folded
  rw [e1, e2]

theorem rbegin_folded {D : Rows} {g : Nat} (h : RowsOk D) (ht : Tidy D) (hs : size D ≤ 256) (h0 : 0 < g) (h1 : g ≤ 2147483647) (rest : Bytes) : rbegin (folded g D ++ rest) = some (g, again D, (folded g D).length) := by
  rw [folded_eq g h]
  unfold rbegin
  rw [List.append_assoc, Wm.split_frame (headBody_le g (size D))]
  simp only
  rw [rhead_body h0 h1 hs]
  simp only
  have := rrows_laid (L := Wm.frame (headBody g (size D)) ++ (laidRows (valueOf D) (skeys D) ++ rest)) (rest := rest) (skeys D) (fin := (Wm.frame (headBody g (size D))).length) (D := .map []) (rise_skeys h ht) (by simp)
  rw [skeys_len] at this
  rw [this, List.length_append]
  rfl

theorem rbegin_torn {D : Rows} {g : Nat} (h : RowsOk D) (ht : Tidy D) (hs : size D ≤ 256) (h0 : 0 < g) (h1 : g ≤ 2147483647) {n : Nat} (hn : n < (folded g D).length) : rbegin ((folded g D).take n) = none := by
  rw [folded_eq g h] at hn ⊢
  rw [List.length_append] at hn
  unfold rbegin
  by_cases hc : n < (Wm.frame (headBody g (size D))).length
  · rw [List.take_append_of_le_length (by omega), Wm.split_torn (headBody_le g (size D)) hc]
  · rw [List.take_append, List.take_of_length_le (by omega), Wm.split_frame (headBody_le g (size D))]
    simp only
    rw [rhead_body h0 h1 hs]
    simp only
    have := rrows_torn (L := Wm.frame (headBody g (size D)) ++ (laidRows (valueOf D) (skeys D)).take (n - (Wm.frame (headBody g (size D))).length)) (skeys D) (fin := (Wm.frame (headBody g (size D))).length) (n := n - (Wm.frame (headBody g (size D))).length) (D := .map []) (rise_skeys h ht) (by omega) (by simp)
    rw [skeys_len] at this
    rw [this]
    rfl

end Go.Proofs.YtgffifleflkjoaaGreat.Em

namespace Go.Proofs.YtgffifleflkjoaaGreat
open Go.RowKit

theorem many_le (c : UInt8) : Wm.many c ≤ 8 := by unfold Wm.many; split; decide; split; decide; split <;> decide

set_option maxRecDepth 100000 in
set_option maxHeartbeats 2000000 in
theorem first_more (w : World) (v : Value) (F : Nat → Prop) (c : UInt8) (l : List UInt8) (h : BytesAt w.heap F v (c :: l)) (hl : l.length ≤ 1000000000) (hc : Wm.many c ≠ 0) (hf : Wm.many c ≤ l.length) :
    Calls Tryz.prog 144 #[v] w fun e w' => e = .returned (.tuple #[.int .i64 (Wm.first (c :: l)).1, .int .i64 (Wm.first (c :: l)).2]) ∧ Below w.heap.size w w' := by
  obtain ⟨b, o, cap, cs, t, fr, rfl, hle, hcap, hF, hrow, hcell⟩ : ∃ (b o cap : Nat) (cs : Array Value) (t : TypeId) (fr : Nat × Nat), v = .slice (some ⟨b, o, none⟩) (c :: l).length cap ∧ (c :: l).length ≤ cap ∧ cap ≤ 9223372036854775807 ∧ F b ∧ w.heap[b]? = some (.cells cs t fr) ∧ ∀ i x, (c :: l)[i]? = some x → cs[o + i]? = some (bval x) := by
    rcases h with ⟨_, h⟩ | h
    · cases h
    · exact h
  have k0 : w.cell? ⟨b, o, none⟩ = some (.int .u8 c.toNat) := (cell_of_row _ _ _ _ _ _ hrow).trans (hcell 0 c rfl)
  have hlt : b < w.heap.size := block_lt_of_cell k0
  have k1 : ∀ ob m, ((w.alloc ob).drewN m).cell? ⟨b, o, none⟩ = some (.int .u8 c.toNat) := fun ob m => ((below_drewN ((Below.refl _ _).alloc (Nat.le_refl _) ob) m).cell (p := ⟨b, o, none⟩) hlt).trans k0
  have k2 : ∀ ob, (w.alloc ob).cell? ⟨b, o, none⟩ = some (.int .u8 c.toNat) := fun ob => (((Below.refl _ _).alloc (Nat.le_refl _) ob).cell (p := ⟨b, o, none⟩) hlt).trans k0
  have hn : ((c :: l).length : Int) = (l.length : Int) + 1 := by simp
  generalize (c :: l).length = n at *
  have n0 : ¬ (n : Int) = 0 := by omega
  have n1 : (0 : Int) < (n : Int) := by omega
  have HR := Lib.hid hrow
  have hlt' := hlt
  clear hrow h
  have wc : wrap64 (c.toNat : Int) = c.toNat := by have := c.toNat_lt; unfold wrap64; omega
  have FB := Lib.hid (fun i => first_bad c l i hc hf)
  have FG := Lib.hid (first_good c l hc hf)
  have FN := Lib.hid (first_none c l hc hf)
  have NL := Lib.hid (fun i => nk_lt l i)
  have hc0 : ¬ (Wm.many c : Int) = 0 := by omega
  have hc1 : ¬ (l.length : Int) + 1 ≤ (Wm.many c : Int) := by omega
  have hk8 := many_le c
  generalize hK : Wm.many c = K at *
  have HK := Lib.hid hK
  have e1 : ¬ (cap : Int) < (K : Int) + 1 := by omega
  have e2 : wrap64 (1 + (K : Int)) = 1 + K := by unfold wrap64; omega
  have e3 : ¬ 1 + (K : Int) < 1 := by omega
  have e4 : ¬ (cap : Int) = 1 := by omega
  have e5 : (1 : Int) ≤ 1 + (K : Int) := by omega
  have e6 : 1 + (K : Int) ≤ (cap : Int) := by omega
  clear hc hf hK
  have hmm := @run_makeMap Tryz.prog
  go_enter Tryz.func144, Tryz.ntmps144
  go_wp2_with (first
    | (refine wpList_insert_lit rfl (.tmp 10) _ _ rfl _ _ 253 _ rfl rfl rfl rfl ?_)
    | (refine wpList_insert_lit rfl (.tmp 10) _ _ rfl _ _ 254 _ rfl rfl rfl rfl ?_)
    | (refine wpList_insert_lit rfl (.tmp 10) _ _ rfl _ _ 255 _ rfl rfl rfl rfl ?_)
    | (refine wpList_lookup_many rfl (.tmp 11) (.tmp 14) rfl w.heap.size c rfl rfl (heap_alloc_last w _) ?_; rw [HK.out]))
  go_loop [2, 6, 31] (fun x _ s => ∃ i : Nat, i ≤ K ∧ s = .int .i64 (i : Int) ∧ x = .int .i64 (wrap64 (nk l i)) ∧ ∀ j, j < i → nk l j ≤ 36028797018963968) (fun _ _ s => K - (intOf s).toNat)
  case atStart => exact ⟨0, by omega, rfl, by rw [nk_zero, wrap_small (by decide)]; rfl, fun j hj => absurd hj (by omega)⟩
  case round =>
    obtain ⟨i, hi, rfl, rfl, hall⟩ := hrel
    by_cases hlt : i < K
    · have i0 : (0 : Int) ≤ (i : Int) := by omega
      have i1 : (i : Int) < (K : Int) := by omega
      obtain ⟨x, hx⟩ : ∃ x, l[i]? = some x := ⟨_, List.getElem?_eq_getElem (by omega)⟩
      have cx : (w.alloc (.map litMany 3)).cell? ⟨b, o + 1 + i, none⟩ = some (.int .u8 x.toNat) := (((Below.refl _ _).alloc (Nat.le_refl _) _).cell (p := ⟨b, o + 1 + i, none⟩) hlt').trans ((cell_of_row _ _ _ _ _ _ HR.out).trans (by rw [Nat.add_assoc]; exact hcell (1 + i) x (by rw [Nat.add_comm]; exact hx)))
      have x0 : (0 : Int) ≤ (x.toNat : Int) := by omega
      have x1 : (x.toNat : Int) < 256 := by have := x.toNat_lt; omega
      by_cases hbig : nk l i ≤ 36028797018963968
      · have y1 : wrap64 (nk l i) = (nk l i : Int) := wrap_small (Nat.le_trans hbig (by decide))
        have y2 : ¬ (36028797018963968 : Int) < (nk l i : Int) := big_not hbig
        have y3 := Lib.hid (or_low (nk l i) x.toNat hbig x.toNat_lt)
        have y4 := Lib.hid (nk_succ l i x hx)
        have HA := Lib.hid (And.intro hbig hall)
        rw [y1]
        clear hcell hall hbig
        go_wp2
        go_round
        case rel =>
          refine ⟨i + 1, by omega, by go_num, by rw [y3.out, y4.out], fun j hj => ?_⟩
          rcases Nat.lt_succ_iff_lt_or_eq.1 hj with h | h
          · exact HA.out.2 j h
          · rw [h]; exact HA.out.1
        case measure => simp [intOf]; omega
      · have f1 := FB.out i hlt hbig
        have p1 : nk l i < 256 ^ 7 := Nat.lt_of_lt_of_le (NL.out i (by omega)) (Nat.pow_le_pow_right (by decide) (by omega))
        have y1 : wrap64 (nk l i) = (nk l i : Int) := wrap_small (Nat.le_trans (Nat.le_of_lt p1) (by decide))
        have y2 : (36028797018963968 : Int) < (nk l i : Int) := big_is hbig
        have HF := Lib.hid f1
        rw [y1]
        clear hcell hall hbig f1 p1
        go_wp2
        go_ret2
        refine ⟨by rw [HF.out]; rfl, (Below.refl _ _).alloc (Nat.le_refl _) _⟩
    · obtain rfl : i = K := by omega
      have bA : Below w.heap.size w (w.alloc (.map litMany 3)) := (Below.refl _ _).alloc (Nat.le_refl _) _
      have BA := Lib.hid bA
      clear bA hcell
      by_cases ht : nk l i ≤ 4611686018427387904
      · have y1 : wrap64 (nk l i) = (nk l i : Int) := wrap_small (Nat.le_trans ht (by decide))
        have y2 : ¬ (4611686018427387904 : Int) < (nk l i : Int) := top_not ht
        have NC := Lib.hid (number_c (nk l i) (w.alloc (.map litMany 3)) _ (Nat.le_refl _) (.slice none 0 0) [] (own_nil _ _) (Nat.zero_le _) (top_lt ht))
        rw [y1]
        by_cases hq : (Wm.wnum (nk l i)).length = 1 + i
        · have HF := Lib.hid (FG.out ht hq)
          have q1 : ((Wm.wnum (nk l i)).length : Int) = 1 + (i : Int) := by rw [hq]; simp
          clear hall ht y1 hq FB FG FN NL
          generalize nk l i = N at *
          go_wp2_with (go_at_call 158; refine NC.out.mono ?_; rintro e w1 ⟨v1, rfl, o1, b1, _⟩; obtain ⟨va, vc, rfl⟩ := o1.at.slice; have B1 := Lib.hid b1; clear b1 o1)
          go_ret2
          exact ⟨by rw [HF.out]; rfl, BA.out.trans (B1.out.mono (by simp))⟩
        · have HF := Lib.hid (FN.out (Or.inr hq))
          have q1 : ¬ ((Wm.wnum (nk l i)).length : Int) = 1 + (i : Int) := by
            generalize (Wm.wnum (nk l i)).length = L at hq ⊢
            omega
          clear hall ht y1 hq FB FG FN NL
          generalize nk l i = N at *
          go_wp2_with (go_at_call 158; refine NC.out.mono ?_; rintro e w1 ⟨v1, rfl, o1, b1, _⟩; obtain ⟨va, vc, rfl⟩ := o1.at.slice; have B1 := Lib.hid b1; clear b1 o1)
          go_ret2
          exact ⟨by rw [HF.out]; rfl, BA.out.trans (B1.out.mono (by simp))⟩
      · have HF := Lib.hid (FN.out (Or.inl ht))
        by_cases hm : nk l i ≤ 9223372036854775807
        · have y1 : wrap64 (nk l i) = (nk l i : Int) := wrap_small hm
          have y2 : (4611686018427387904 : Int) < (nk l i : Int) := top_is ht
          rw [y1]
          clear hall ht y1 hm FB FG FN NL
          generalize nk l i = N at *
          go_wp2
          go_ret2
          exact ⟨by rw [HF.out]; rfl, BA.out⟩
        · have hi0 : i ≠ 0 := fun e => by subst e; rw [nk_zero] at hm; exact hm (by decide)
          obtain ⟨j, rfl⟩ := Nat.exists_eq_succ_of_ne_zero hi0
          have hx : wrap64 (nk l (j + 1)) < 0 := wrap_neg hm (nk_top l j (by omega) (hall j (Nat.lt_succ_self j)))
          clear hall ht hm FB FG FN NL
          generalize wrap64 (nk l (j + 1)) = X at *
          have y2 : ¬ (4611686018427387904 : Int) < X := by omega
          have NC := Lib.hid (number_neg X (w.alloc (.map litMany 3)) hx)
          have q1 : ¬ (1 : Int) = 1 + ((j + 1 : Nat) : Int) := by omega
          go_wp2_with (go_at_call 158; refine NC.out.mono ?_; rintro e w1 ⟨u, v1, rfl, o1, b1, _⟩; obtain ⟨va, vc, rfl⟩ := o1.at.slice; have B1 := Lib.hid b1; clear b1 o1)
          go_ret2
          exact ⟨by rw [HF.out]; rfl, BA.out.trans (B1.out.mono (by simp))⟩

end Go.Proofs.YtgffifleflkjoaaGreat

namespace Go.Proofs.YtgffifleflkjoaaGreat
open Go.RowKit

theorem first_c (w : World) (v : Value) (F : Nat → Prop) (l : List UInt8) (h : BytesAt w.heap F v l) (hl : l.length ≤ 1000000000) :
    Calls Tryz.prog 144 #[v] w fun e w' => e = .returned (.tuple #[.int .i64 (Wm.first l).1, .int .i64 (Wm.first l).2]) ∧ Below w.heap.size w w' := by
  cases l with
  | nil => exact (first_nil w v F h).mono (by rintro e w' ⟨rfl, rfl⟩; exact ⟨rfl, Below.refl _ _⟩)
  | cons c r =>
    have hr : r.length ≤ 1000000000 := by rw [List.length_cons] at hl; omega
    by_cases hc : Wm.many c = 0
    · have e : Wm.first (c :: r) = (c.toNat, 1) := if_pos hc
      rw [e]
      exact first_one w v F c r h hr hc
    · by_cases hf : r.length < Wm.many c
      · have e : Wm.first (c :: r) = (0, 0) := by
          show (if Wm.many c = 0 then (c.toNat, (1 : Int)) else if r.length < Wm.many c then (0, 0) else _) = _
          rw [if_neg hc, if_pos hf]
        rw [e]
        exact first_few w v F c r h hr hc hf
      · exact first_more w v F c r h hr hc (by omega)

theorem first_bounds (l : List UInt8) : ((Wm.first l).2 = 0 ∨ (Wm.first l).2 = -1 ∨ ∃ k : Nat, (Wm.first l).2 = k ∧ 1 ≤ k ∧ k ≤ 9 ∧ k ≤ l.length) ∧ (Wm.first l).1 ≤ 4611686018427387904 := by
  cases l with
  | nil => exact ⟨Or.inl rfl, Nat.zero_le _⟩
  | cons c r =>
    by_cases hc : Wm.many c = 0
    · have e : Wm.first (c :: r) = (c.toNat, 1) := if_pos hc
      rw [e]
      exact ⟨Or.inr (Or.inr ⟨1, rfl, Nat.le_refl _, by decide, by simp⟩), by have := c.toNat_lt; show c.toNat ≤ _; omega⟩
    · by_cases hf : r.length < Wm.many c
      · have e : Wm.first (c :: r) = (0, 0) := by
          show (if Wm.many c = 0 then (c.toNat, (1 : Int)) else if r.length < Wm.many c then (0, 0) else _) = _
          rw [if_neg hc, if_pos hf]
        rw [e]
        exact ⟨Or.inl rfl, Nat.zero_le _⟩
      · rw [first_eq c r hc (by omega)]
        split
        · exact ⟨Or.inr (Or.inl rfl), Nat.zero_le _⟩
        · rename_i hq
          have hq := not_or.1 hq
          have h1 : ¬ nk r (Wm.many c) > 4611686018427387904 := hq.1
          refine ⟨Or.inr (Or.inr ⟨1 + Wm.many c, by simp, by omega, by have := many_le c; omega, by rw [List.length_cons]; omega⟩), ?_⟩
          show nk r (Wm.many c) ≤ _
          exact Nat.not_lt.1 h1

/-- What Split tells. -/
def SplitB (w : World) (l : List UInt8) (e : Ending) (w' : World) : Prop :=
  Below w.heap.size w w' ∧ match Wm.split l with
    | none => e = .returned (.tuple #[.slice none 0 0, .int .i64 0, .int .i64 (Wm.splitErr l)])
    | some r => ∃ v, e = .returned (.tuple #[v, .int .i64 r.2, .int .i64 0]) ∧ BytesAt w'.heap (fun k => w.heap.size ≤ k) v r.1

theorem splitB_none {w w' : World} {l : List UInt8} {x : Int} (hb : Below w.heap.size w w') (h1 : Wm.split l = none) (h2 : Wm.splitErr l = x) : SplitB w l (.returned (.tuple #[.slice none 0 0, .int .i64 0, .int .i64 x])) w' := by
  refine ⟨hb, ?_⟩
  rw [h1, h2]

end Go.Proofs.YtgffifleflkjoaaGreat

namespace Go.Proofs.YtgffifleflkjoaaGreat
open Go.RowKit

theorem wrap_in {x : Int} (h1 : -1000000000000 ≤ x) (h2 : x ≤ 1000000000000) : wrap64 x = x := by unfold wrap64; omega

set_option maxRecDepth 100000 in
set_option maxHeartbeats 1000000 in
theorem split_c {w : World} {F : Nat → Prop} {v : Value} {l : List UInt8} (h : BytesAt w.heap F v l) (hl : l.length ≤ 1000000000) : Calls Tryz.prog 108 #[v] w (SplitB w l) := by
  obtain ⟨a, cap, rfl⟩ := h.slice
  have FC := Lib.hid (first_c w _ F l h hl)
  obtain ⟨hk, hn⟩ := first_bounds l
  have hs : Wm.split l = (if (Wm.first l).2 ≤ 0 ∨ (Wm.first l).1 < 4 ∨ (Wm.first l).1 > 8196 then none
    else if (l.length : Int) - (Wm.first l).2 < (Wm.first l).1 then none
    else match Wm.opened ((l.drop (Wm.first l).2.toNat).take (Wm.first l).1) with | some body => some (body, (Wm.first l).2.toNat + (Wm.first l).1) | none => none) := rfl
  have he : Wm.splitErr l = (if (Wm.first l).2 = 0 then 0 else if (Wm.first l).2 < 0 ∨ (Wm.first l).1 < 4 ∨ (Wm.first l).1 > 8196 then 141 else if (l.length : Int) - (Wm.first l).2 < (Wm.first l).1 then 0 else 130) := rfl
  obtain ⟨N, hN⟩ : ∃ N, (Wm.first l).1 = N := ⟨_, rfl⟩
  obtain ⟨K, hK⟩ : ∃ K, (Wm.first l).2 = K := ⟨_, rfl⟩
  rw [hN, hK] at hs he FC
  rw [hN] at hn
  rw [hK] at hk
  clear hN hK
  have H := Lib.hid h
  clear h
  have hl1 : (l.length : Int) ≤ 1000000000 := by omega
  rcases hk with rfl | rfl | ⟨k, rfl, k1, k9, kl⟩
  · rw [if_pos (Or.inl (by decide))] at hs
    rw [if_pos rfl] at he
    have HS := Lib.hid (And.intro hs he)
    clear hs he
    go_enter Tryz.func108, Tryz.ntmps108
    go_wp2_with (go_at_call 144; refine FC.out.mono ?_; rintro e w1 ⟨rfl, b1⟩; have B1 := Lib.hid b1; clear b1)
    go_ret3
    exact splitB_none B1.out HS.out.1 HS.out.2
  · rw [if_pos (Or.inl (by decide))] at hs
    rw [if_neg (by decide), if_pos (Or.inl (by decide))] at he
    have HS := Lib.hid (And.intro hs he)
    clear hs he
    go_enter Tryz.func108, Tryz.ntmps108
    go_wp2_with (go_at_call 144; refine FC.out.mono ?_; rintro e w1 ⟨rfl, b1⟩; have B1 := Lib.hid b1; clear b1)
    go_ret3
    exact splitB_none B1.out HS.out.1 HS.out.2
  · have c0 : ¬ (k : Int) = 0 := by omega
    have c1 : ¬ (k : Int) < 0 := by omega
    rw [if_neg c0] at he
    by_cases hq : N < 4 ∨ N > 8196
    · rw [if_pos (Or.inr hq)] at hs
      rw [if_pos (Or.inr hq)] at he
      have HS := Lib.hid (And.intro hs he)
      clear hs he
      by_cases h4 : N < 4
      · have c2 : (N : Int) < 4 := by omega
        clear hq h4
        go_enter Tryz.func108, Tryz.ntmps108
        go_wp2_with (go_at_call 144; refine FC.out.mono ?_; rintro e w1 ⟨rfl, b1⟩; have B1 := Lib.hid b1; clear b1)
        go_ret3
        exact splitB_none B1.out HS.out.1 HS.out.2
      · have c2 : ¬ (N : Int) < 4 := by omega
        have c3 : (8196 : Int) < (N : Int) := by omega
        clear hq h4
        go_enter Tryz.func108, Tryz.ntmps108
        go_wp2_with (go_at_call 144; refine FC.out.mono ?_; rintro e w1 ⟨rfl, b1⟩; have B1 := Lib.hid b1; clear b1)
        go_ret3
        exact splitB_none B1.out HS.out.1 HS.out.2
    · obtain ⟨q1, q2⟩ := not_or.1 hq
      have c2 : ¬ (N : Int) < 4 := by omega
      have c3 : ¬ (8196 : Int) < (N : Int) := by omega
      rw [if_neg (by rintro (h | h | h) <;> omega)] at hs
      rw [if_neg (by rintro (h | h | h) <;> omega)] at he
      clear hq
      by_cases hm : (l.length : Int) - (k : Int) < (N : Int)
      · rw [if_pos hm] at hs
        rw [if_pos hm] at he
        have HS := Lib.hid (And.intro hs he)
        clear hs he
        generalize l.length = L at *
        have e1 : wrap64 ((L : Int) - (k : Int)) = (L : Int) - (k : Int) := by unfold wrap64; omega
        go_enter Tryz.func108, Tryz.ntmps108
        go_wp2_with (go_at_call 144; refine FC.out.mono ?_; rintro e w1 ⟨rfl, b1⟩; have B1 := Lib.hid b1; clear b1)
        go_ret3
        exact splitB_none B1.out HS.out.1 HS.out.2
      · rw [if_neg hm] at hs
        rw [if_neg hm] at he
        obtain ⟨b, o, rfl, hcap, hcap2, hbl⟩ := H.out.row (by omega)
        have back := H.out.back (n := k) kl
        have hdl : (l.drop k).length = l.length - k := List.length_drop
        rw [← hdl] at back
        have mid := back.front (n := N) (by omega)
        have mlen : ((l.drop k).take N).length = N := by rw [List.length_take]; omega
        have MID := Lib.hid mid
        have OC := Lib.hid (fun (W : World) (hb : Below w.heap.size w W) => crcOpen_c (MID.out.below hb) (by omega))
        rw [Int.toNat_natCast] at hs
        have HS := Lib.hid (And.intro hs he)
        clear hs he back mid hdl mlen
        generalize l.length = L at *
        have e0 := wrap_in (x := (k : Int) + (N : Int)) (by omega) (by omega)
        have e1 := wrap_in (x := (L : Int) - (k : Int)) (by omega) (by omega)
        have e2 : ¬ (k : Int) + (N : Int) < 0 := by omega
        have e3 : (k : Int) ≤ (k : Int) + (N : Int) := by omega
        have e4 : (k : Int) + (N : Int) ≤ (cap : Int) := by omega
        have e5 : ¬ (cap : Int) = (k : Int) := by omega
        cases hop : Wm.opened ((l.drop k).take N) with
        | none =>
          have HP := Lib.hid hop
          clear hop
          go_enter Tryz.func108, Tryz.ntmps108
          go_wp2_with (first
            | (go_at_call 144; refine FC.out.mono ?_; rintro e w1 ⟨rfl, b1⟩; have B1 := Lib.hid b1; clear b1)
            | (go_at_call 145; refine (OC.out _ B1.out).mono ?_; intro e w2 h2; unfold OpenedB at h2; rw [HP.out] at h2; obtain ⟨b2, rfl⟩ := h2; have B2 := Lib.hid b2; clear b2))
          go_ret3
          refine splitB_none (B1.out.trans (B2.out.mono B1.out.size)) ?_ HS.out.2
          rw [HS.out.1, HP.out]
        | some body =>
          have HP := Lib.hid hop
          clear hop
          go_enter Tryz.func108, Tryz.ntmps108
          go_wp2_with (first
            | (go_at_call 144; refine FC.out.mono ?_; rintro e w1 ⟨rfl, b1⟩; have B1 := Lib.hid b1; clear b1)
            | (go_at_call 145; refine (OC.out _ B1.out).mono ?_; intro e w2 h2; unfold OpenedB at h2; rw [HP.out] at h2; obtain ⟨b2, v2, rfl, y2⟩ := h2; have B2 := Lib.hid (And.intro b2 y2); clear b2 y2))
          go_ret3
          refine ⟨B1.out.trans (B2.out.1.mono B1.out.size), ?_⟩
          rw [HS.out.1, HP.out]
          exact ⟨v2, by simp, B2.out.2.keeps (fun _ _ _ => rfl) (fun k hk _ => Nat.le_trans B1.out.size hk)⟩

end Go.Proofs.YtgffifleflkjoaaGreat

namespace Go.Proofs.YtgffifleflkjoaaGreat
open Go.RowKit Dm

abbrev tReader : Nat := 253
abbrev tPReader : Nat := 212
abbrev tWLacks : Nat := 278

/-- A reader of these bytes. -/
def RdAt (w : World) (q : Nat) (l : List UInt8) : Prop := ∃ v, w.heap[q]? = some (.cells #[v, .bool true, .bool false] tReader (0, 0)) ∧ BytesAt w.heap (fun k => k < q) v l

theorem RdAt.later {w w' : World} {q : Nat} {l : List UInt8} (h : RdAt w q l) (hb : Below w.heap.size w w') : RdAt w' q l := by
  obtain ⟨v, r, y⟩ := h
  exact ⟨v, (hb.block q (lt_of_row r)).trans r, y.below hb⟩

theorem RdAt.lt {w : World} {q : Nat} {l : List UInt8} (h : RdAt w q l) : q < w.heap.size := by
  obtain ⟨v, r, _⟩ := h
  exact lt_of_row r

/-- The reader goes on at a part of its bytes. -/
theorem RdAt.put {w : World} {q : Nat} {v u : Value} {k : List UInt8} (r : w.heap[q]? = some (.cells #[v, .bool true, .bool false] tReader (0, 0))) (y : BytesAt w.heap (fun k => k < q) u k) : RdAt (w.setCell ⟨q, 0, none⟩ u) q k :=
  ⟨u, heap_setCell_same w q 0 _ tReader u r, y.keeps (fun k hk _ => heap_setCell_other _ _ k _ (Nat.ne_of_lt hk)) (fun _ hk _ => hk)⟩

/-- One gives up. -/
abbrev wGave : List PanicEntry := [{ v := .iface tWLacks (.agg #[]), recovered := false }]

theorem wmust_yes (w : World) : Calls Tryz.prog 177 #[.bool true] w fun e w' => e = .returned (.tuple #[]) ∧ w = w' := by
  go_enter Tryz.func177, Tryz.ntmps177
  go_wp2
  go_end0
  exact ⟨rfl, rfl⟩

theorem wmust_no (w : World) : Calls Tryz.prog 177 #[.bool false] w fun e w' => e = .panicked wGave ∧ w = w' := by
  go_enter Tryz.func177, Tryz.ntmps177
  go_wp2
  exact ⟨rfl, rfl, rfl⟩

/-- What take leaves. -/
def Took (w : World) (q : Nat) (l : List UInt8) (n : Nat) (e : Ending) (w' : World) : Prop :=
  ∃ v, e = .returned v ∧ BytesAt w'.heap (fun k => k < q) v (l.take n) ∧ RdAt w' q (l.drop n) ∧ Moves (fun k => k = q) w w'

theorem took_of {w : World} {q : Nat} {v u x : Value} {l : List UInt8} {n : Nat} (r : w.heap[q]? = some (.cells #[v, .bool true, .bool false] tReader (0, 0))) (y : BytesAt w.heap (fun k => k < q) u (l.drop n)) (z : BytesAt w.heap (fun k => k < q) x (l.take n)) :
    Took w q l n (.returned x) (w.setCell ⟨q, 0, none⟩ u) :=
  ⟨x, rfl, z.keeps (fun k hk _ => heap_setCell_other _ _ k _ (Nat.ne_of_lt hk)) (fun _ hk _ => hk), RdAt.put r y, setCell_moves w q 0 u⟩

set_option maxRecDepth 100000 in
set_option maxHeartbeats 1000000 in
theorem take_yes {w : World} {q : Nat} {l : List UInt8} (h : RdAt w q l) {n : Nat} (hn : n ≤ l.length) (hl : l.length ≤ 1000000000) : Calls Tryz.prog 203 #[.pointer (some ⟨q, 0, none⟩), .int .i64 n] w (Took w q l n) := by
  obtain ⟨v, r, y⟩ := h
  rcases y with ⟨rfl, rfl⟩ | ⟨b, o, cap, cs, t, fr, rfl, h1, h2, h3, h4, h5⟩
  · obtain rfl : n = 0 := by simpa using hn
    have c0 : w.cell? ⟨q, 0, none⟩ = some (.slice none 0 0) := row_cell r rfl
    have z0 := row_free r 0
    have R := Lib.hid r
    clear r
    go_enter Tryz.func203, Tryz.ntmps203
    go_wp2_with (go_at_call 177; refine (wmust_yes _).mono ?_; rintro e w' ⟨rfl, rfl⟩)
    go_ret
    exact took_of R.out (Or.inl ⟨rfl, rfl⟩) (Or.inl ⟨rfl, rfl⟩)
  · have y : BytesAt w.heap (fun k => k < q) (.slice (some ⟨b, o, none⟩) l.length cap) l := Or.inr ⟨b, o, cap, cs, t, fr, rfl, h1, h2, h3, h4, h5⟩
    have front := y.front hn
    have back := y.back hn
    have c0 : w.cell? ⟨q, 0, none⟩ = some (.slice (some ⟨b, o, none⟩) l.length cap) := row_cell r rfl
    have z0 := row_free r 0
    have R := Lib.hid (And.intro r (And.intro front (And.intro back (And.intro h3 h4))))
    have HL := Lib.hid (show l.length - n = 0 → l.drop n = [] from fun h => List.drop_of_length_le (by omega))
    clear r y front back h3 h4 h5
    generalize l.length = L at *
    have d1 : (n : Int) ≤ (L : Int) := by omega
    have d2 : (n : Int) ≤ (cap : Int) := by omega
    have d3 : ¬ (n : Int) < 0 := by omega
    have d4 : (0 : Int) ≤ (n : Int) := by omega
    by_cases hc : cap = n
    · have d5 : (cap : Int) = (n : Int) := by omega
      have e0 : L - n = 0 := by omega
      have HC := Lib.hid (And.intro hc e0)
      clear hc e0
      go_enter Tryz.func203, Tryz.ntmps203
      go_wp2_with (go_at_call 177; refine (wmust_yes _).mono ?_; rintro e w' ⟨rfl, rfl⟩)
      go_ret
      refine took_of R.out.1 ?_ R.out.2.1
      rw [HL.out HC.out.2]
      exact Or.inr ⟨b, o, cap - n, cs, t, fr, by rw [HC.out.2]; rfl, Nat.zero_le _, Nat.le_trans (Nat.sub_le _ _) h2, R.out.2.2.2.1, R.out.2.2.2.2, fun i x hi => by simp at hi⟩
    · have d5 : ¬ (cap : Int) = (n : Int) := by omega
      go_enter Tryz.func203, Tryz.ntmps203
      go_wp2_with (go_at_call 177; refine (wmust_yes _).mono ?_; rintro e w' ⟨rfl, rfl⟩)
      go_ret
      exact took_of R.out.1 R.out.2.2.1 R.out.2.1

theorem take_no {w : World} {q : Nat} {l : List UInt8} (h : RdAt w q l) {n : Nat} (hn : l.length < n) (hl : n ≤ 9223372036854775807) : Calls Tryz.prog 203 #[.pointer (some ⟨q, 0, none⟩), .int .i64 n] w fun e w' => e = .panicked wGave ∧ w = w' := by
  obtain ⟨v, r, y⟩ := h
  obtain ⟨a, c, rfl⟩ := y.slice
  have c0 : w.cell? ⟨q, 0, none⟩ = some (.slice a l.length c) := row_cell r rfl
  have d1 : ¬ (n : Int) ≤ (l.length : Int) := by omega
  clear r y
  generalize l.length = L at *
  go_enter Tryz.func203, Tryz.ntmps203
  go_wp2_with (go_at_call 177; refine (wmust_no _).mono ?_; rintro e w' ⟨rfl, rfl⟩)
  exact ⟨rfl, rfl, rfl⟩

end Go.Proofs.YtgffifleflkjoaaGreat

namespace Go.Proofs.YtgffifleflkjoaaGreat
open Go.RowKit Dm

theorem rnum_eq (most : Nat) (l : List UInt8) : Wm.rnum most l = if (Wm.first l).2 ≤ 0 ∨ (Wm.first l).1 > most then none else some ((Wm.first l).1, l.drop (Wm.first l).2.toNat) := rfl

set_option maxRecDepth 100000 in
theorem rnumber_yes {w : World} {q : Nat} {l r : List UInt8} {most n : Nat} (h : RdAt w q l) (hl : l.length ≤ 1000000000) (hr : Wm.rnum most l = some (n, r)) :
    Calls Tryz.prog 199 #[.pointer (some ⟨q, 0, none⟩), .int .i64 most] w fun e w' => e = .returned (.int .i64 n) ∧ RdAt w' q r ∧ Moves (fun k => k = q) w w' := by
  have H := Lib.hid h
  obtain ⟨v, row, y⟩ := h
  have FC := Lib.hid (first_c w v _ l y hl)
  obtain ⟨hk, hn⟩ := first_bounds l
  rw [rnum_eq] at hr
  by_cases hq : (Wm.first l).2 ≤ 0 ∨ (Wm.first l).1 > most
  · rw [if_pos hq] at hr; cases hr
  · rw [if_neg hq] at hr
    obtain ⟨q1, q2⟩ := not_or.1 hq
    obtain ⟨rfl, rfl⟩ : (Wm.first l).1 = n ∧ l.drop (Wm.first l).2.toNat = r := by
      have := Option.some.inj hr
      exact ⟨congrArg Prod.fst this, congrArg Prod.snd this⟩
    obtain ⟨N, hN⟩ : ∃ N, (Wm.first l).1 = N := ⟨_, rfl⟩
    rcases hk with hk | hk | ⟨k, hk, k1, k9, kl⟩
    · omega
    · omega
    · rw [hN, hk] at FC
      rw [hN] at q2
      rw [hN, hk, Int.toNat_natCast]
      have d1 : (0 : Int) < (k : Int) := by omega
      have d2 : (N : Int) ≤ (most : Int) := by omega
      have c0 : w.cell? ⟨q, 0, none⟩ = some v := row_cell row rfl
      have HH := Lib.hid (And.intro kl hl)
      clear hr hq q1 q2 hN hk hn k1 k9 kl hl row y
      go_enter Tryz.func199, Tryz.ntmps199
      go_wp2_with (first
        | (go_at_call 144; refine FC.out.mono ?_; rintro e w1 ⟨rfl, b1⟩; have B1 := Lib.hid b1; clear b1 c0)
        | (go_at_call 177; refine (wmust_yes _).mono ?_; rintro e w' ⟨rfl, rfl⟩)
        | (go_at_call 203; refine (take_yes (H.out.later B1.out) HH.out.1 HH.out.2).mono ?_; rintro e w2 ⟨v2, rfl, _, r2, m2⟩; have H2 := Lib.hid (And.intro r2 m2); clear r2 m2))
      go_ret
      exact ⟨rfl, H2.out.1, (Moves.of_below B1.out).trans H2.out.2 (fun _ _ h => h)⟩

set_option maxRecDepth 100000 in
theorem rnumber_no {w : World} {q : Nat} {l : List UInt8} {most : Nat} (h : RdAt w q l) (hl : l.length ≤ 1000000000) (hr : Wm.rnum most l = none) :
    Calls Tryz.prog 199 #[.pointer (some ⟨q, 0, none⟩), .int .i64 most] w fun e w' => e = .panicked wGave ∧ Below w.heap.size w w' := by
  obtain ⟨v, row, y⟩ := h
  have FC := Lib.hid (first_c w v _ l y hl)
  rw [rnum_eq] at hr
  by_cases hq : (Wm.first l).2 ≤ 0 ∨ (Wm.first l).1 > most
  · obtain ⟨N, hN⟩ : ∃ N, (Wm.first l).1 = N := ⟨_, rfl⟩
    obtain ⟨K, hK⟩ : ∃ K, (Wm.first l).2 = K := ⟨_, rfl⟩
    rw [hN, hK] at FC hq
    have c0 : w.cell? ⟨q, 0, none⟩ = some v := row_cell row rfl
    clear hr hN hK hl row y
    by_cases hk : K ≤ 0
    · have d1 : ¬ (0 : Int) < K := by omega
      clear hq
      go_enter Tryz.func199, Tryz.ntmps199
      go_wp2_with (first
        | (go_at_call 144; refine FC.out.mono ?_; rintro e w1 ⟨rfl, b1⟩; have B1 := Lib.hid b1; clear b1 c0)
        | (go_at_call 177; refine (wmust_no _).mono ?_; rintro e w' ⟨rfl, rfl⟩))
      exact ⟨rfl, rfl, B1.out⟩
    · have d1 : (0 : Int) < K := by omega
      have d2 : ¬ N ≤ most := by omega
      clear hq
      go_enter Tryz.func199, Tryz.ntmps199
      go_wp2_with (first
        | (go_at_call 144; refine FC.out.mono ?_; rintro e w1 ⟨rfl, b1⟩; have B1 := Lib.hid b1; clear b1 c0)
        | (go_at_call 177; refine (wmust_no _).mono ?_; rintro e w' ⟨rfl, rfl⟩))
      exact ⟨rfl, rfl, B1.out⟩
  · rw [if_neg hq] at hr; cases hr

theorem wbound_c (w : World) (n : Nat) : Calls Tryz.prog 197 #[.int .i64 n] w fun e w' => e = .returned (.int .i64 0) ∧ w = w' := by
  have d1 : ¬ (n : Int) < 0 := by omega
  go_enter Tryz.func197, Tryz.ntmps197
  go_wp2
  go_ret
  exact ⟨rfl, rfl⟩

theorem rnone_c {w : World} {q : Nat} {l : List UInt8} (h : RdAt w q l) : Calls Tryz.prog 200 #[.pointer (some ⟨q, 0, none⟩)] w fun e w' => e = .returned (.bool false) ∧ w = w' := by
  obtain ⟨v, row, y⟩ := h
  have c1 : w.cell? ⟨q, 1, none⟩ = some (.bool true) := row_cell row rfl
  clear row y
  go_enter Tryz.func200, Tryz.ntmps200
  go_wp2
  go_ret
  exact ⟨rfl, rfl⟩

end Go.Proofs.YtgffifleflkjoaaGreat

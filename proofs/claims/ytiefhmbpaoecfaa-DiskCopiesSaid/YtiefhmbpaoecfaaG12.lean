/-
  How the document's disk lies in memory.
  The document's 'done', of tapes.
  The document's 'done', of sectors: plain laws.
-/
import Derived.Test.YtiefhmbpaoecfaaG10
import Derived.Test.YtiefhmbpaoecfaaG11

namespace Go.Proofs.Ytiefhmbpaoecfaa
open Go.RowKit Dm

abbrev tRSec : Nat := 94
abbrev tRStep : Nat := 97
abbrev tRBytes : Nat := 39
abbrev tRDisk : Nat := 42

/-- A slice of sectors. -/
def SecsAt (h : Array Obj) (F : Nat → Prop) (v : Value) (secs : List (Int × List UInt8)) : Prop :=
  (v = .slice none 0 0 ∧ secs = []) ∨ ∃ (b o cap : Nat) (c : Array Value) (t : TypeId) (fr : Nat × Nat), v = .slice (some ⟨b, o, none⟩) secs.length cap ∧ secs.length ≤ cap ∧ cap ≤ 9223372036854775807 ∧ F b ∧ h[b]? = some (.cells c t fr) ∧
    ∀ (i : Nat) (n : Int) (l : List UInt8), secs[i]? = some (n, l) → ∃ u, c[o + i * 2]? = some (.int .i64 n) ∧ c[o + i * 2 + 1]? = some u ∧ BytesAt h F u l

structure SecOk (secs : List (Int × List UInt8)) (f : Int → List UInt8) (many : Int) : Prop where
  ent : ∀ e ∈ secs, e.2 = f e.1 ∧ 0 ≤ e.1 ∧ e.1 < many
  no : ∀ n, (∀ e ∈ secs, e.1 ≠ n) → f n = zeros
  nodup : (secs.map (·.1)).Nodup

/-- What stands, of the document's. -/
def RB (h : Array Obj) (F : Nat → Prop) (sv t0 t1 t2 t3 : Value) (x : St) (many : Int) : Prop :=
  ∃ secs, SecsAt h F sv secs ∧ SecOk secs x.sec many ∧ BytesAt h F t0 (x.tp 0) ∧ BytesAt h F t1 (x.tp 1) ∧ BytesAt h F t2 (x.tp 2) ∧ BytesAt h F t3 (x.tp 3)

def RStepAt (h : Array Obj) (F : Nat → Prop) (s : Step) (w0 w1 w2 u : Value) : Prop := w0 = .int .i64 s.what ∧ w1 = .int .i64 s.n ∧ w2 = .int .i64 s.many ∧ BytesAt h F u s.b

def RStepsAt (h : Array Obj) (F : Nat → Prop) (v : Value) (l : List Step) : Prop :=
  (v = .slice none 0 0 ∧ l = []) ∨ ∃ (b o cap : Nat) (c : Array Value) (t : TypeId) (fr : Nat × Nat), v = .slice (some ⟨b, o, none⟩) l.length cap ∧ l.length ≤ cap ∧ cap ≤ 9223372036854775807 ∧ F b ∧ h[b]? = some (.cells c t fr) ∧
    ∀ (i : Nat) (s : Step), l[i]? = some s → ∃ w0 w1 w2 u, c[o + i * 4]? = some w0 ∧ c[o + i * 4 + 1]? = some w1 ∧ c[o + i * 4 + 2]? = some w2 ∧ c[o + i * 4 + 3]? = some u ∧ RStepAt h F s w0 w1 w2 u

def refC (many room : Int) (sv t0 t1 t2 t3 wv : Value) (dead : Bool) (stops : Int) : Array Value := #[.int .i64 many, .int .i64 room, sv, t0, t1, t2, t3, wv, .bool dead, .int .i64 stops]

def RefAt (h : Array Obj) (F : Nat → Prop) (v : Value) (d : D) : Prop :=
  ∃ sv t0 t1 t2 t3 wv, v = .agg (refC d.many d.room sv t0 t1 t2 t3 wv d.dead d.stops) ∧ RB h F sv t0 t1 t2 t3 d.lasts d.many ∧ RStepsAt h F wv d.waits

theorem SecsAt.keeps {h h' : Array Obj} {F F' : Nat → Prop} {v : Value} {l : List (Int × List UInt8)} (x : SecsAt h F v l) (hs : ∀ k, F k → k < h.size → h'[k]? = h[k]?) (hF : ∀ k, F k → k < h.size → F' k) : SecsAt h' F' v l := by
  rcases x with x | ⟨b, o, cap, c, t, fr, h1, h2, h3, g2, g3, g4⟩
  · exact Or.inl x
  · refine Or.inr ⟨b, o, cap, c, t, fr, h1, h2, h3, hF _ g2 (lt_of_row g3), (hs _ g2 (lt_of_row g3)).trans g3, fun i n l hi => ?_⟩
    obtain ⟨u, e0, e1, e2⟩ := g4 i n l hi
    exact ⟨u, e0, e1, e2.keeps hs hF⟩

theorem RB.keeps {h h' : Array Obj} {F F' : Nat → Prop} {sv t0 t1 t2 t3 : Value} {x : St} {many : Int} (r : RB h F sv t0 t1 t2 t3 x many) (hs : ∀ k, F k → k < h.size → h'[k]? = h[k]?) (hF : ∀ k, F k → k < h.size → F' k) : RB h' F' sv t0 t1 t2 t3 x many := by
  obtain ⟨secs, s1, s2, b0, b1, b2, b3⟩ := r
  exact ⟨secs, s1.keeps hs hF, s2, b0.keeps hs hF, b1.keeps hs hF, b2.keeps hs hF, b3.keeps hs hF⟩

theorem RStepAt.keeps {h h' : Array Obj} {F F' : Nat → Prop} {s : Step} {w0 w1 w2 u : Value} (x : RStepAt h F s w0 w1 w2 u) (hs : ∀ k, F k → k < h.size → h'[k]? = h[k]?) (hF : ∀ k, F k → k < h.size → F' k) : RStepAt h' F' s w0 w1 w2 u :=
  ⟨x.1, x.2.1, x.2.2.1, x.2.2.2.keeps hs hF⟩

theorem RStepsAt.keeps {h h' : Array Obj} {F F' : Nat → Prop} {v : Value} {l : List Step} (x : RStepsAt h F v l) (hs : ∀ k, F k → k < h.size → h'[k]? = h[k]?) (hF : ∀ k, F k → k < h.size → F' k) : RStepsAt h' F' v l := by
  rcases x with x | ⟨b, o, cap, c, t, fr, h1, h2, h3, g2, g3, g4⟩
  · exact Or.inl x
  · refine Or.inr ⟨b, o, cap, c, t, fr, h1, h2, h3, hF _ g2 (lt_of_row g3), (hs _ g2 (lt_of_row g3)).trans g3, fun i s hi => ?_⟩
    obtain ⟨w0, w1, w2, u, e0, e1, e2, e3, e4⟩ := g4 i s hi
    exact ⟨w0, w1, w2, u, e0, e1, e2, e3, e4.keeps hs hF⟩

theorem RefAt.keeps {h h' : Array Obj} {F F' : Nat → Prop} {v : Value} {d : D} (x : RefAt h F v d) (hs : ∀ k, F k → k < h.size → h'[k]? = h[k]?) (hF : ∀ k, F k → k < h.size → F' k) : RefAt h' F' v d := by
  obtain ⟨sv, t0, t1, t2, t3, wv, e, r, st⟩ := x
  exact ⟨sv, t0, t1, t2, t3, wv, e, r.keeps hs hF, st.keeps hs hF⟩

/-- Below, and the blocks that were made besides. -/
theorem RB.plus {w w' : World} {F : Nat → Prop} {sv t0 t1 t2 t3 : Value} {x : St} {many : Int} (r : RB w.heap F sv t0 t1 t2 t3 x many) (hb : Below w.heap.size w w') : RB w'.heap (plus F w w') sv t0 t1 t2 t3 x many := r.keeps (fun k _ hl => hb.block k hl) (fun _ h _ => Or.inl h)
theorem RStepsAt.plus {w w' : World} {F : Nat → Prop} {v : Value} {l : List Step} (r : RStepsAt w.heap F v l) (hb : Below w.heap.size w w') : RStepsAt w'.heap (plus F w w') v l := r.keeps (fun k _ hl => hb.block k hl) (fun _ h _ => Or.inl h)
theorem BytesAt.plus {w w' : World} {F : Nat → Prop} {v : Value} {l : List UInt8} (r : BytesAt w.heap F v l) (hb : Below w.heap.size w w') : BytesAt w'.heap (plus F w w') v l := r.keeps (fun k _ hl => hb.block k hl) (fun _ h _ => Or.inl h)
theorem RefAt.plus {w w' : World} {F : Nat → Prop} {v : Value} {d : D} (r : RefAt w.heap F v d) (hb : Below w.heap.size w w') : RefAt w'.heap (plus F w w') v d := r.keeps (fun k _ hl => hb.block k hl) (fun _ h _ => Or.inl h)

theorem FreshBytes.plus {w w' : World} {F : Nat → Prop} {v : Value} {l : List UInt8} {base : Nat} (x : FreshBytes w'.heap base v l) (hb : w.heap.size ≤ base) : BytesAt w'.heap (plus F w w') v l :=
  x.bytes.keeps (fun _ _ _ => rfl) (fun k hk hl => Or.inr ⟨by have : base ≤ k := hk; omega, hl⟩)

theorem RB.tape {h : Array Obj} {F : Nat → Prop} {sv t0 t1 t2 t3 : Value} {x : St} {many : Int} (r : RB h F sv t0 t1 t2 t3 x many) (t : Nat) (ht : t < 4) : ∃ v, #[sv, t0, t1, t2, t3][1 + t]? = some v ∧ BytesAt h F v (x.tp t) := by
  obtain ⟨secs, s1, s2, b0, b1, b2, b3⟩ := r
  obtain rfl | rfl | rfl | rfl : t = 0 ∨ t = 1 ∨ t = 2 ∨ t = 3 := by omega
  · exact ⟨t0, rfl, b0⟩
  · exact ⟨t1, rfl, b1⟩
  · exact ⟨t2, rfl, b2⟩
  · exact ⟨t3, rfl, b3⟩

/-- A tape is another. -/
theorem RB.setTape {h : Array Obj} {F : Nat → Prop} {sv t0 t1 t2 t3 : Value} {x : St} {many : Int} (r : RB h F sv t0 t1 t2 t3 x many) (t : Nat) (ht : t < 4) {v : Value} {l : List UInt8} (hv : BytesAt h F v l) :
    ∃ u0 u1 u2 u3, #[sv, t0, t1, t2, t3].setIfInBounds (1 + t) v = #[sv, u0, u1, u2, u3] ∧ RB h F sv u0 u1 u2 u3 { x with tp := upd x.tp t l } many := by
  obtain ⟨secs, s1, s2, b0, b1, b2, b3⟩ := r
  obtain rfl | rfl | rfl | rfl : t = 0 ∨ t = 1 ∨ t = 2 ∨ t = 3 := by omega
  · exact ⟨v, t1, t2, t3, by simp, secs, s1, s2, by simpa [upd] using hv, by simpa [upd] using b1, by simpa [upd] using b2, by simpa [upd] using b3⟩
  · exact ⟨t0, v, t2, t3, by simp, secs, s1, s2, by simpa [upd] using b0, by simpa [upd] using hv, by simpa [upd] using b2, by simpa [upd] using b3⟩
  · exact ⟨t0, t1, v, t3, by simp, secs, s1, s2, by simpa [upd] using b0, by simpa [upd] using b1, by simpa [upd] using hv, by simpa [upd] using b3⟩
  · exact ⟨t0, t1, t2, v, by simp, secs, s1, s2, by simpa [upd] using b0, by simpa [upd] using b1, by simpa [upd] using b2, by simpa [upd] using hv⟩

theorem nodup_bound : ∀ (m : Nat) (l : List Int), l.Nodup → (∀ x ∈ l, 0 ≤ x ∧ x < m) → l.length ≤ m
  | 0, l, _, h => by
    cases l with
    | nil => simp
    | cons a l => have := h a (List.mem_cons_self ..); omega
  | m + 1, l, hn, h => by
    by_cases hm : (m : Int) ∈ l
    · have h1 := nodup_bound m (l.erase (m : Int)) (hn.erase _) (fun x hx => by
        have hx' := (hn.mem_erase_iff).1 hx
        have := h x hx'.2
        have := hx'.1
        omega)
      rw [List.length_erase_of_mem hm] at h1
      omega
    · have h1 := nodup_bound m l hn (fun x hx => by
        have := h x hx
        have : x ≠ m := fun e => hm (e ▸ hx)
        omega)
      omega

theorem SecOk.len {secs : List (Int × List UInt8)} {f : Int → List UInt8} {many : Int} (h : SecOk secs f many) (hm : many ≤ 4096) : secs.length ≤ 4096 := by
  have := nodup_bound 4096 (secs.map (·.1)) h.nodup (fun x hx => by
    obtain ⟨e, he, rfl⟩ := List.mem_map.1 hx
    have := h.ent e he
    omega)
  simpa using this

end Go.Proofs.Ytiefhmbpaoecfaa

namespace Go.Proofs.Ytiefhmbpaoecfaa
open Go.RowKit Dm

abbrev bytes0 : Array Value := #[.slice none 0 0, .slice none 0 0, .slice none 0 0, .slice none 0 0, .slice none 0 0]
abbrev doneW (w : World) (c s : Array Value) : World := ((w.alloc (.cells c tRBytes)).alloc (.cells s tRStep)).alloc (.cells bytes0 tRBytes)

theorem doneW_below (w : World) (c s : Array Value) : Below w.heap.size w (doneW w c s) := (((Below.refl _ _).alloc (Nat.le_refl _) _).alloc (by simp) _).alloc (by simp; omega) _
theorem doneW_rows (w : World) (c s : Array Value) : (doneW w c s).heap[w.heap.size]? = some (.cells c tRBytes (0, 0)) ∧ (doneW w c s).heap[w.heap.size + 1]? = some (.cells s tRStep (0, 0)) ∧ (doneW w c s).heap[w.heap.size + 2]? = some (.cells bytes0 tRBytes (0, 0)) ∧ (doneW w c s).heap.size = w.heap.size + 3 :=
  ⟨heap_past (by simp; omega) (heap_past (by simp) (heap_alloc_last w _)), heap_past (by simp) (heap_at (w := w.alloc _) _ (by simp)), heap_at (w := (w.alloc _).alloc _) _ (by simp), by simp⟩

theorem infoRB : (Try.prog.info? tRBytes).map (·.size) = some 5 := by kernel_rfl

def DoneTape (w : World) (c : Array Value) (t : Nat) (l : List UInt8) (G : Nat → Prop) (e : Ending) (w' : World) : Prop :=
  ∃ v', e = .returned (.agg (c.setIfInBounds (1 + t) v')) ∧ Below w.heap.size w w' ∧ BytesAt w'.heap (fun k => G k ∨ w.heap.size ≤ k) v' l

set_option maxRecDepth 100000 in
set_option maxHeartbeats 2000000 in
theorem done_app (sv t0 t1 t2 t3 ti u : Value) (t : Nat) (many : Int) (l1 l2 : List UInt8) (G : Nat → Prop) (w : World) (ht : t < 4) (hti : #[sv, t0, t1, t2, t3][1 + t]? = some ti) (h1 : BytesAt w.heap G ti l1) (h2 : BytesAt w.heap G u l2) (hl : l1.length + l2.length ≤ 1099511627776) (ho : (#[sv, t0, t1, t2, t3] : Array Value).all (·.oneCell') = true) :
    Calls Try.prog 63 #[.agg #[sv, t0, t1, t2, t3], .agg #[.int .i64 2, .int .i64 t, .int .i64 many, u]] w (DoneTape w #[sv, t0, t1, t2, t3] t (l1 ++ l2) G) := by
  have hb0 := doneW_below w #[sv, t0, t1, t2, t3] #[.int .i64 2, .int .i64 t, .int .i64 many, u]
  have rows := doneW_rows w #[sv, t0, t1, t2, t3] #[.int .i64 2, .int .i64 t, .int .i64 many, u]
  generalize hC : (#[sv, t0, t1, t2, t3] : Array Value) = C at *
  have csz : C.size = 5 := by rw [← hC]; rfl
  obtain ⟨W0, hW0⟩ : ∃ W0, doneW w C #[.int .i64 2, .int .i64 t, .int .i64 many, u] = W0 := ⟨_, rfl⟩
  rw [hW0] at hb0 rows
  obtain ⟨r0, r1, r2, z0⟩ := rows
  have HD := Lib.hid (And.intro h1 (And.intro h2 (And.intro hb0 (And.intro r0 (And.intro r1 (And.intro r2 (And.intro z0 (And.intro hl (And.intro ho csz)))))))))
  have x1 : ∀ x : Wd (Below W0.heap.size W0), x.world.cell? ⟨w.heap.size + 1, 1, none⟩ = some (.int .i64 t) := fun x => (x.ok.cell (p := ⟨w.heap.size + 1, 1, none⟩) (lt_of_row r1)).trans (row_cell r1 rfl)
  have x2 : ∀ x : Wd (Below W0.heap.size W0), x.world.cell? ⟨w.heap.size + 1, 3, none⟩ = some u := fun x => (x.ok.cell (p := ⟨w.heap.size + 1, 3, none⟩) (lt_of_row r1)).trans (row_cell r1 rfl)
  have x3 : ∀ x : Wd (Below W0.heap.size W0), x.world.cell? ⟨w.heap.size, 1 + t, none⟩ = some ti := fun x => (x.ok.cell (p := ⟨w.heap.size, 1 + t, none⟩) (lt_of_row r0)).trans (row_cell r0 hti)
  have k0 : W0.cell? ⟨w.heap.size + 1, 0, none⟩ = some (.int .i64 2) := row_cell r1 rfl
  have hz : (0 : Int) ≤ (t : Int) := by omega
  have hz4 : (t : Int) < 4 := by omega
  have ne : Nonempty (Wd (Below W0.heap.size W0)) := ⟨⟨_, Below.refl _ _⟩⟩
  have HW0 := Lib.hid hW0
  clear h1 h2 hl hb0 r0 r1 r2 z0 ho csz hC hti
  go_enter Try.func63, Try.ntmps63
  go_upto_region 1 with fail
  clear hW0
  go_wp2
  refine wp_region_hoist (fun w' => ∃ x : Wd (Below W0.heap.size W0), w' = x.world) [14] (by kernel_rfl) ?_
  refine wpAnyI_reads [0, 1, 3, 4, 5, 6, 7, 9, 10, 12] 5 _ ⟨⟨_, (Below.refl _ _).drew⟩, rfl⟩ (by kernel_rfl) ?_
  simp only [List.filterMap_cons, List.filterMap_nil, List.getElem?_toArray, List.getElem?_cons_succ, List.getElem?_cons_zero]
  repeat (refine wpHoist_step (fun K hK => ?_); simp only [hoists, sameUpon]; go_simp; refine hK _ ?_; clear hK K)
  refine wpHoist_nil ?_
  refine wpAnyI_one 2 4 _ _ rfl (by kernel_rfl) ?_
  refine wpList_plain rfl fun K hK => ?_
  go_simp
  have hb1 : Below W0.heap.size W0 (W0.alloc (.cells #[] tByte)).drew := ((Below.refl _ _).alloc (Nat.le_refl _) _).drew
  have own1 : OwnB (W0.alloc (.cells #[] tByte)).drew W0.heap.size (.slice (some ⟨W0.heap.size, 0, none⟩) 0 0) [] := own_empty W0
  refine hK _ _ (wpList_nil ⟨rfl, fun _ => ⟨⟨_, hb1⟩, rfl⟩, ?_⟩)
  clear hK K
  have OW1 := Lib.hid own1
  clear own1
  generalize (W0.alloc (.cells #[] tByte)).drew = W1 at *
  refine wpAnyI_one 8 3 _ _ rfl (by kernel_rfl) ?_
  refine wpList_append_bytes rfl (.tmp 92) (.tmp 97) rfl W0.heap.size W0.heap.size W0 hb1 (Nat.le_refl _) _ [] rfl OW1.out _ l1 G rfl (HD.out.1.keeps (fun k _ hl => (hb1.block k (by have := HD.out.2.2.2.2.2.2.1; omega)).trans (HD.out.2.2.1.block k hl)) (fun _ h _ => h)) (by have := HD.out.2.2.2.2.2.2.2.1; simp; omega) hb1.size ?_
  intro v1 W2 OW2 hb2 _
  refine wpList_nil ⟨rfl, fun _ => ⟨⟨_, hb2⟩, rfl⟩, ?_⟩
  rw [List.nil_append] at OW2
  refine wpAnyI_one 11 2 _ _ rfl (by kernel_rfl) ?_
  refine wpList_append_bytes rfl (.tmp 98) (.tmp 100) rfl W0.heap.size W0.heap.size W0 hb2 (Nat.le_refl _) _ l1 rfl OW2.out _ l2 G rfl (HD.out.2.1.keeps (fun k _ hl => (hb2.block k (by have := HD.out.2.2.2.2.2.2.1; omega)).trans (HD.out.2.2.1.block k hl)) (fun _ h _ => h)) HD.out.2.2.2.2.2.2.2.1 hb2.size ?_
  intro v2 W3 OW3 hb3 _
  generalize l1 ++ l2 = l3 at *
  refine wpList_nil ⟨rfl, fun _ => ⟨⟨_, hb3⟩, rfl⟩, ?_⟩
  refine wpAnyI_reads [13] 1 _ ⟨⟨_, hb3⟩, rfl⟩ (by kernel_rfl) ?_
  simp only [List.filterMap_cons, List.filterMap_nil, List.getElem?_toArray, List.getElem?_cons_succ, List.getElem?_cons_zero]
  repeat (refine wpHoist_step (fun K hK => ?_); simp only [hoists, sameUpon]; go_simp; refine hK _ ?_; clear hK K)
  refine wpHoist_nil ?_
  refine wpAnyI_one 14 0 _ _ rfl (by kernel_rfl) ?_
  have q0 : W3.heap[w.heap.size]? = some (.cells C tRBytes (0, 0)) := (hb3.block _ (lt_of_row HD.out.2.2.2.1)).trans HD.out.2.2.2.1
  have q2 : W3.heap[w.heap.size + 1 + 1]? = some (.cells bytes0 tRBytes (0, 0)) := (hb3.block _ (lt_of_row HD.out.2.2.2.2.2.1)).trans HD.out.2.2.2.2.2.1
  have k3 : W3.cell? ⟨w.heap.size, 1 + t, none⟩ = some ti := x3 ⟨W3, hb3⟩
  have f3 : W3.frozen? ⟨w.heap.size, 1 + t, none⟩ = false := row_free q0 _
  obtain ⟨a2, c2, rfl⟩ := OW3.out.bytes.bytes.slice
  have s0 := heap_setCell_same W3 w.heap.size (1 + t) C tRBytes (.slice a2 l3.length c2) q0
  have s2 := (heap_setCell_other W3 ⟨w.heap.size, 1 + t, none⟩ (w.heap.size + 1 + 1) (.slice a2 l3.length c2) (by show w.heap.size + 1 + 1 ≠ w.heap.size; omega)).trans q2
  have mv : Below w.heap.size w (W3.setCell ⟨w.heap.size, 1 + t, none⟩ (.slice a2 l3.length c2)) := (HD.out.2.2.1.trans (hb3.mono (by have := HD.out.2.2.1.size; omega))).setCell (Nat.le_refl _) _
  have bs : BytesAt (W3.setCell ⟨w.heap.size, 1 + t, none⟩ (.slice a2 l3.length c2)).heap (fun k => W0.heap.size ≤ k) (.slice a2 l3.length c2) l3 :=
    OW3.out.bytes.bytes.keeps (fun k hk _ => heap_setCell_other W3 ⟨w.heap.size, 1 + t, none⟩ k _ (by have hk' : W0.heap.size ≤ k := hk; have := HD.out.2.2.2.2.2.2.1; show k ≠ w.heap.size; omega)) (fun _ h _ => h)
  refine wpList_plain rfl fun K hK => ?_
  go_simp
  have HS := Lib.hid (And.intro s0 (And.intro s2 (And.intro mv bs)))
  clear s0 s2 mv bs q0 q2 k3 f3
  refine hK _ _ (wpList_nil ⟨rfl, fun h => absurd (by decide) h, by kernel_rfl, ?_⟩)
  clear hK K
  generalize (W3.setCell ⟨w.heap.size, 1 + t, none⟩ (.slice a2 l3.length c2)) = W4 at *
  have sc : (C.setIfInBounds (1 + t) (.slice a2 l3.length c2)).size = 5 := by rw [Array.size_setIfInBounds]; exact HD.out.2.2.2.2.2.2.2.2.2
  have so : (C.setIfInBounds (1 + t) (.slice a2 l3.length c2)).all (·.oneCell') = true := by
    rw [Array.all_eq_true_iff_forall_mem]
    intro y hy
    rcases Array.mem_or_eq_of_mem_setIfInBounds hy with h | h
    · exact Array.all_eq_true_iff_forall_mem.1 HD.out.2.2.2.2.2.2.2.2.1 y h
    · rw [h]; rfl
  have SC := Lib.hid (And.intro sc so)
  clear sc so
  generalize hC' : C.setIfInBounds (1 + t) (.slice a2 l3.length c2) = C' at *
  go_wp2_with (first
    | (refine wpList_load_row rfl tRBytes (.tmp 2) rfl w.heap.size rfl tRBytes C' (0, 0) _ HS.out.1 Try.underlying39 rfl (by rw [infoRB, SC.out.1]) ?_)
    | (refine wpList_store_abs rfl tRBytes (.tmp 4) (.tmp 104) rfl (w.heap.size + 1 + 1) C' rfl rfl tRBytes bytes0 HS.out.2.1 (by rw [infoRB, SC.out.1]) (by rw [SC.out.1]; rfl) SC.out.2 ?_
       intro W5 HW5 HM5 HS5))
  refine bodyPost_ret (results_cell_row rfl _ _ (w.heap.size + 1 + 1) _ _ _ _ rfl HW5.out Try.underlying39 rfl (by rw [infoRB, SC.out.1])) rfl ?_
  refine ⟨.slice a2 l3.length c2, by rw [hC'], Moves.new HS.out.2.2.1 HM5 (by omega), ?_⟩
  have z0 := HD.out.2.2.2.2.2.2.1
  exact HS.out.2.2.2.keeps (fun k hk hl => HM5.block k hl (fun e => by have hk' : W0.heap.size ≤ k := hk; omega)) (fun k hk _ => Or.inr (by have hk' : W0.heap.size ≤ k := hk; omega))

end Go.Proofs.Ytiefhmbpaoecfaa

namespace Go.Proofs.Ytiefhmbpaoecfaa
open Go.RowKit Dm

def flat2 (acc : List (Int × Value)) : List Value := acc.flatMap (fun e => [.int .i64 e.1, e.2])

theorem flat2_push (acc : List (Int × Value)) (e : Int × Value) : flat2 (acc ++ [e]) = flat2 acc ++ [.int .i64 e.1, e.2] := by simp [flat2]
theorem flat2_len (acc : List (Int × Value)) : (flat2 acc).length = acc.length * 2 := by
  induction acc with
  | nil => rfl
  | cons a l ih => rw [flat2, List.flatMap_cons, List.length_append]; have : (List.flatMap (fun e : Int × Value => [Value.int .i64 e.1, e.2]) l).length = l.length * 2 := ih; rw [this]; simp; omega
theorem flat2_at (acc : List (Int × Value)) (i : Nat) (e : Int × Value) (h : acc[i]? = some e) : (flat2 acc)[i * 2]? = some (.int .i64 e.1) ∧ (flat2 acc)[i * 2 + 1]? = some e.2 := by
  induction acc generalizing i with
  | nil => cases h
  | cons a l ih =>
    cases i with
    | zero => cases h; exact ⟨rfl, rfl⟩
    | succ i =>
      have := ih i (by simpa using h)
      have e1 : (i + 1) * 2 = i * 2 + 2 := by omega
      have e2 : i * 2 + 2 + 1 = i * 2 + 1 + 2 := by omega
      have e3 : flat2 (a :: l) = .int .i64 a.1 :: a.2 :: flat2 l := rfl
      rw [e1, e3, e2, List.getElem?_cons_succ, List.getElem?_cons_succ, List.getElem?_cons_succ, List.getElem?_cons_succ]
      exact this

/-- Between two rounds: the sectors that are listed so far. -/
structure SecRel (h : Array Obj) (F : Nat → Prop) (f : Int → List UInt8) (many n : Int) (b : List UInt8) (secs : List (Int × List UInt8)) (k : Nat) (acc : List (Int × Value)) (pb : Bool) : Prop where
  ent : ∀ e ∈ acc, BytesAt h F e.2 (upd f n b e.1) ∧ 0 ≤ e.1 ∧ e.1 < many
  keys : ∀ e ∈ acc, (e.1 = n ∧ pb = true) ∨ (e.1 ≠ n ∧ ∃ j l, j < k ∧ secs[j]? = some (e.1, l))
  has1 : pb = true → ∃ e ∈ acc, e.1 = n
  has2 : ∀ (j : Nat) m l, j < k → secs[j]? = some (m, l) → m = n ∨ ∃ e ∈ acc, e.1 = m
  nodup : (acc.map (·.1)).Nodup
  len : acc.length ≤ k + (if pb then 1 else 0)

section
variable {h : Array Obj} {F : Nat → Prop} {f : Int → List UInt8} {many n : Int} {b : List UInt8} {secs : List (Int × List UInt8)} {k : Nat} {acc : List (Int × Value)} {pb : Bool}

theorem SecRel.start : SecRel h F f many n b secs 0 [] false := ⟨(fun e he => by cases he), (fun e he => by cases he), (fun h => by cases h), (fun j m l hj => by omega), (by simp), (by simp)⟩

theorem SecRel.new (r : SecRel h F f many n b secs k acc false) {u : Value} (hu : BytesAt h F u b) (h0 : 0 ≤ n) (h1 : n < many) : SecRel h F f many n b secs k (acc ++ [(n, u)]) true := by
  refine ⟨fun e he => ?_, fun e he => ?_, fun _ => ⟨(n, u), by simp, rfl⟩, fun j m l hj hs => ?_, ?_, by have := r.len; simp at this ⊢; omega⟩
  · rcases List.mem_append.1 he with he | he
    · exact r.ent e he
    · rw [List.mem_singleton] at he; subst he; exact ⟨by rw [upd_same]; exact hu, h0, h1⟩
  · rcases List.mem_append.1 he with he | he
    · rcases r.keys e he with ⟨_, hh⟩ | hh
      · cases hh
      · exact Or.inr hh
    · rw [List.mem_singleton] at he; subst he; exact Or.inl ⟨rfl, rfl⟩
  · rcases r.has2 j m l hj hs with hh | ⟨e, he, hh⟩
    · exact Or.inl hh
    · exact Or.inr ⟨e, List.mem_append_left _ he, hh⟩
  · rw [List.map_append, List.nodup_append]
    refine ⟨r.nodup, by simp, fun a ha c hc => ?_⟩
    simp at hc
    obtain ⟨e, he, rfl⟩ := List.mem_map.1 ha
    rcases r.keys e he with ⟨_, hh⟩ | hh
    · cases hh
    · rw [hc]; exact hh.1

theorem SecRel.old (r : SecRel h F f many n b secs k acc pb) (hn : (secs.map (·.1)).Nodup) {m : Int} {l : List UInt8} (hs : secs[k]? = some (m, l)) (hm : m ≠ n) {u : Value} (hu : BytesAt h F u (f m)) (h0 : 0 ≤ m) (h1 : m < many) : SecRel h F f many n b secs (k + 1) (acc ++ [(m, u)]) pb := by
  refine ⟨fun e he => ?_, fun e he => ?_, fun hp => ?_, fun j m' l' hj hs' => ?_, ?_, by have := r.len; simp at this ⊢; omega⟩
  · rcases List.mem_append.1 he with he | he
    · exact r.ent e he
    · rw [List.mem_singleton] at he; subst he; exact ⟨by rw [upd_other _ _ _ _ hm]; exact hu, h0, h1⟩
  · rcases List.mem_append.1 he with he | he
    · rcases r.keys e he with hh | ⟨hh, j, l, hj, hl⟩
      · exact Or.inl hh
      · exact Or.inr ⟨hh, j, l, by omega, hl⟩
    · rw [List.mem_singleton] at he; subst he; exact Or.inr ⟨hm, k, l, by omega, hs⟩
  · obtain ⟨e, he, hh⟩ := r.has1 hp
    exact ⟨e, List.mem_append_left _ he, hh⟩
  · by_cases hjk : j = k
    · subst hjk
      rw [hs] at hs'
      cases hs'
      exact Or.inr ⟨(m, u), by simp, rfl⟩
    · rcases r.has2 j m' l' (by omega) hs' with hh | ⟨e, he, hh⟩
      · exact Or.inl hh
      · exact Or.inr ⟨e, List.mem_append_left _ he, hh⟩
  · rw [List.map_append, List.nodup_append]
    refine ⟨r.nodup, by simp, fun a ha c hc => ?_⟩
    simp at hc
    obtain ⟨e, he, rfl⟩ := List.mem_map.1 ha
    subst hc
    rcases r.keys e he with ⟨hh, _⟩ | ⟨_, j, l', hj, hl⟩
    · rw [hh]; exact fun e => hm e.symm
    · intro heq
      have e1 : (secs.map (·.1))[j]? = some e.1 := by simp [hl]
      have e2 : (secs.map (·.1))[k]? = some c := by simp [hs]
      rw [← heq] at e2
      have l1 := (List.getElem?_eq_some_iff.1 e1)
      have l2 := (List.getElem?_eq_some_iff.1 e2)
      have := (List.getElem_inj hn).1 (l1.2.trans l2.2.symm)
      omega

theorem SecRel.same (r : SecRel h F f many n b secs k acc pb) {l : List UInt8} (hs : secs[k]? = some (n, l)) : SecRel h F f many n b secs (k + 1) acc pb := by
  refine ⟨r.ent, fun e he => ?_, r.has1, fun j m' l' hj hs' => ?_, r.nodup, by have := r.len; omega⟩
  · rcases r.keys e he with hh | ⟨hh, j, l, hj, hl⟩
    · exact Or.inl hh
    · exact Or.inr ⟨hh, j, l, by omega, hl⟩
  · by_cases hjk : j = k
    · subst hjk
      rw [hs] at hs'
      cases hs'
      exact Or.inl rfl
    · exact r.has2 j m' l' (by omega) hs'

/-- At the end. -/
theorem SecRel.done (r : SecRel h F f many n b secs secs.length acc true) (hsec : SecOk secs f many) {w' : World} {F' : Nat → Prop} {v : Value} {base : Nat} (own : w'.ownsRow base tRSec 2 v acc.length (flat2 acc)) (hs : ∀ k, F k → k < h.size → w'.heap[k]? = h[k]?) (hF : ∀ k, F k → k < h.size → F' k) (hB : ∀ k, base ≤ k → k < w'.heap.size → F' k) :
    ∃ secs', SecsAt w'.heap F' v secs' ∧ SecOk secs' (upd f n b) many := by
  refine ⟨acc.map (fun e => (e.1, upd f n b e.1)), ?_, ?_⟩
  · obtain ⟨_, own⟩ := own
    rcases own with ⟨rfl, h0⟩ | ⟨g, cap, cur, rfl, hg, hh, h1, h2, h3, h4⟩
    · refine Or.inl ⟨rfl, ?_⟩
      have : acc = [] := List.eq_nil_of_length_eq_zero h0
      rw [this]; rfl
    · refine Or.inr ⟨g, 0, cap, cur, tRSec, (0, 0), by simp, by simpa using h1, by unfold maxLen at h2; omega, hB g hg (lt_of_row hh), hh, fun i m l hi => ?_⟩
      obtain ⟨e, he, hel⟩ : ∃ e, acc[i]? = some e ∧ (e.1, upd f n b e.1) = (m, l) := by simpa using hi
      simp only [Prod.mk.injEq] at hel
      obtain ⟨rfl, rfl⟩ := hel
      have hlt : i < acc.length := (List.getElem?_eq_some_iff.1 he).1
      obtain ⟨q1, q2⟩ := flat2_at acc i e he
      rw [← h4, List.getElem?_take, if_pos (by omega)] at q1 q2
      refine ⟨e.2, by simpa using q1, by simpa using q2, (r.ent e (List.mem_of_getElem? he)).1.keeps hs hF⟩
  · refine ⟨fun e he => ?_, fun m hm => ?_, ?_⟩
    · obtain ⟨e', he', rfl⟩ := List.mem_map.1 he
      exact ⟨rfl, (r.ent e' he').2⟩
    · obtain ⟨e, he, hen⟩ := r.has1 rfl
      have hmn : m ≠ n := fun e' => hm (e.1, upd f n b e.1) (List.mem_map.2 ⟨e, he, rfl⟩) (by rw [e', ← hen])
      rw [upd_other _ _ _ _ hmn]
      refine hsec.no m (fun e' he' hem => ?_)
      obtain ⟨j, hj⟩ := List.mem_iff_getElem?.1 he'
      have hlt : j < secs.length := (List.getElem?_eq_some_iff.1 hj).1
      rcases r.has2 j e'.1 e'.2 hlt hj with hh | ⟨e2, he2, hh⟩
      · exact hmn (by rw [← hem, hh])
      · exact hm (e2.1, upd f n b e2.1) (List.mem_map.2 ⟨e2, he2, rfl⟩) (by rw [hh, hem])
    · rw [List.map_map]
      exact r.nodup
end

end Go.Proofs.Ytiefhmbpaoecfaa

/-
  The document's disk: step.
-/
import Derived.Test.YtiefhmbpaoecfaaG15

namespace Go.Proofs.Ytiefhmbpaoecfaa
open Go.RowKit Dm

theorem infoRStep : (Try.prog.info? tRStep).map (fun i => (i.zero, i.size, i.bytes)) = some (some (.agg #[.int .i64 0, .int .i64 0, .int .i64 0, .slice none 0 0]), 4, 48) := by kernel_rfl
abbrev tRSteps : Nat := 40

abbrev stepW (w : World) (C S : Array Value) : World := ((w.alloc (.cells C tRDisk)).alloc (.cells S tRStep)).alloc (.cells ref0 tRDisk)
theorem stepW_facts (w : World) (C S : Array Value) : Below w.heap.size w (stepW w C S) ∧ (stepW w C S).heap[w.heap.size]? = some (.cells C tRDisk (0, 0)) ∧ (stepW w C S).heap[w.heap.size + 1]? = some (.cells S tRStep (0, 0)) ∧ (stepW w C S).heap[w.heap.size + 1 + 1]? = some (.cells ref0 tRDisk (0, 0)) ∧ (stepW w C S).heap.size = w.heap.size + 3 :=
  ⟨(((Below.refl _ _).alloc (Nat.le_refl _) _).alloc (by simp) _).alloc (by simp; omega) _, heap_past (by simp <;> omega) (heap_past (by simp) (heap_alloc_last w _)), heap_past (by simp) (heap_at (w := w.alloc _) _ (by simp)), heap_at (w := (w.alloc _).alloc _) _ (by simp), by simp⟩

theorem src_one {w : World} {g : Nat} {a b c : Int} {u : Value} (hg : w.heap[g]? = some (.cells #[.int .i64 a, .int .i64 b, .int .i64 c, u] tRStep (0, 0))) (hu : u.oneCell' = true) : SrcAt w 4 (.slice (some ⟨g, 0, none⟩) 1 1) 1 [.int .i64 a, .int .i64 b, .int .i64 c, u] := by
  refine Or.inr ⟨⟨g, 0, none⟩, 1, rfl, rfl, fun j v hj => ?_, fun v hv => ?_⟩
  · rw [addr_add, cell_of_row _ _ _ _ _ _ hg, Nat.zero_add]
    simpa using hj
  · simp at hv
    rcases hv with rfl | rfl | rfl | rfl
    · rfl
    · rfl
    · rfl
    · exact hu

theorem own_none (w : World) : (w.alloc (.cells #[] tRStep)).ownsRow w.heap.size tRStep 4 (.slice (some ⟨w.heap.size, 0, none⟩) 0 0) 0 [] :=
  ⟨rfl, Or.inr ⟨w.heap.size, 0, #[], rfl, Nat.le_refl _, heap_alloc_last _ _, Nat.le_refl _, Nat.zero_le _, rfl, rfl⟩⟩

theorem SrcAt.below {w w' : World} {size m : Nat} {v : Value} {news : List Value} (h : SrcAt w size v m news) (hb : Below w.heap.size w w') : SrcAt w' size v m news := by
  rcases h with h | ⟨ad, c, h1, h2, h3, h4⟩
  · exact Or.inl h
  · exact Or.inr ⟨ad, c, h1, h2, fun j u hj => by
      have := h3 j u hj
      have lt := block_lt_of_cell this
      exact (hb.cell lt).trans this, h4⟩

theorem step_end {w W2 X W5 : World} {F G : Nat → Prop} {d : D} {s : Step} {u v : Value} {us : List (Step × Value)} {g : Nat} {sv t0 t1 t2 t3 : Value} (h0 : d.goes.2 = 0) (hbw : Below w.heap.size w W2) (hg : w.heap.size + 3 ≤ g) (rb : RB W2.heap G sv t0 t1 t2 t3 d.goes.1.lasts d.goes.1.many) (hG : ∀ k, G k → (F k ∧ k < w.heap.size) ∨ (w.heap.size + 3 ≤ k ∧ k ≠ g)) (hgl : g < W2.heap.size)
    (hus : us.map (·.1) = d.waits) (hu : ∀ e ∈ us, BytesAt w.heap F e.2 e.1.b) (hb : BytesAt w.heap F u s.b) (hX : Below W2.heap.size W2 X) (own : X.ownsRow W2.heap.size tRStep 4 v (us.length + 1) (flat4 us ++ [.int .i64 s.what, .int .i64 s.n, .int .i64 s.many, u]))
    (hM : Moves (fun k => k = w.heap.size + 1 + 1) (X.setCell ⟨g, 7, none⟩ v) W5) : GivesRef w F (d.step s) (.returned (.tuple #[.agg (refC d.goes.1.many d.goes.1.room sv t0 t1 t2 t3 v d.goes.1.dead d.goes.1.stops), .int .i64 0])) W5 := by
  have hzX := hX.size
  have hz := hbw.size
  have hz5 := hM.size
  have szc : (X.setCell ⟨g, 7, none⟩ v).heap.size = X.heap.size := by simp
  rw [szc] at hz5
  have blk : ∀ k, k < W2.heap.size → k ≠ g → k ≠ w.heap.size + 1 + 1 → W5.heap[k]? = W2.heap[k]? := fun k hk h1 h2 => by
    rw [hM.block k (by rw [szc]; omega) h2, heap_setCell_other _ _ _ _ h1, hX.block k hk]
  have hb5 : Below w.heap.size w W5 := by
    refine ⟨hM.os.trans (hX.os.trans hbw.os), hM.tape.trans (hX.tape.trans hbw.tape), hM.output.trans (hX.output.trans hbw.output), by omega, fun k hk => ?_⟩
    rw [blk k (by omega) (by omega) (by omega)]
    exact hbw.block k hk
  have e2 : d.step s = ({ d.goes.1 with waits := d.waits ++ [s] }, 0) := by unfold D.step; rw [if_pos h0]
  rw [e2]
  refine ⟨_, rfl, hb5, sv, t0, t1, t2, t3, v, rfl, ?_, ?_⟩
  · refine rb.keeps (fun k hk hl => blk k hl ?_ ?_) (fun k hk hl => ?_)
    · rcases hG k hk with h | h
      · omega
      · exact h.2
    · rcases hG k hk with h | h
      · omega
      · omega
    · rcases hG k hk with h | h
      · exact Or.inl h.1
      · exact Or.inr ⟨by omega, by omega⟩
  · have own5 : W5.ownsRow W2.heap.size tRStep 4 v (us ++ [(s, u)]).length (flat4 (us ++ [(s, u)])) := by
      rw [flat4_push, List.length_append]
      exact owns_moves own (fun k hk hl => by rw [hM.block k (by rw [szc]; exact hl) (by omega), heap_setCell_other _ _ _ _ (by show k ≠ g; omega)])
    have := rsteps_of_owns (F := F) (F' := plus F w W5) (h := w.heap) own5 (fun e he => by
      rcases List.mem_append.1 he with he | he
      · exact hu e he
      · rw [List.mem_singleton] at he; subst he; exact hb) (fun k _ hl => hb5.block k hl) (fun k h _ => Or.inl h) (fun k h1 h2 => Or.inr ⟨by omega, h2⟩)
    rw [List.map_append, hus] at this
    exact this

section
variable {P : Program} {ops : Array Oper}
/-- append, and which blocks stay. -/
theorem wpList_append_row2 {rest : List Oper} {o : Oper} {a : Act} {w : World} {Q : Exit → Act → World → Prop} (hgd : o.guard = none) (s x : Operand) (t : TypeId)
    (ho : o.op = .call { callee := .builtin .append, args := #[s, x], argTypes := #[t, t] })
    (B base : Nat) (w0 : World) (hb : Below B w0 w) (hB : B ≤ base) (e : TypeId) (z : Value) (size bytes : Nat) (ht : P.underlying t = some (.slice e)) (hi : (P.info? e).map (fun i => (i.zero, i.size, i.bytes)) = some (some z, size, bytes))
    (hzs : z.cells.size = size) (hsz : 0 < size)
    (v : Value) (n : Nat) (xs : List Value) (hs : a.eval s = v) (hown : w.ownsRow base e size v n xs)
    (v2 : Value) (m : Nat) (news : List Value) (hx : a.eval x = v2) (hsrc : SrcAt w size v2 m news)
    (h63 : n + m ≤ maxLen) (hbytes : (n + m) * bytes ≤ 140737488355328) (hbase : base ≤ w.heap.size)
    (h : ∀ v' w', Hid (w'.ownsRow base e size v' (n + m) (xs ++ news)) → Below B w0 w' → (∀ k, k < w.heap.size → v.ownBlock ≠ some k → w'.heap[k]? = w.heap[k]?) → wpList P ops Q rest (a.put o.dst v') w') : wpList P ops Q (o :: rest) a w := by
  obtain ⟨i0, hi0, hz0, hz1, hz2⟩ := info_parts hi
  have hob : ∀ k, v.ownBlock = some k → base ≤ k := fun k e => by
    rcases hown.2 with ⟨h, _⟩ | ⟨g, cap, cur, h, hg, _⟩
    · rw [h] at e; cases e
    · rw [h] at e; cases e; exact hg
  rcases hsrc with ⟨rfl, rfl, rfl⟩ | ⟨ad, c, rfl, g1, g2, g3⟩
  · refine wpList_append_own_none hgd s x t ho base e i0 size ht hi0 v n xs hs hown hx (h v w ?_ hb (fun _ _ _ => rfl))
    rw [List.append_nil, Nat.add_zero]
    exact hown
  · refine wpList_append_own w hgd s x t ho base e i0 z size bytes ht hi0 hz0 hz1 hz2 hzs hsz v n xs hs hown ad m c news hx g1 g2 g3 h63 hbytes hbase ?_
    intro v' w' ho' hg _
    exact h v' w' ho' (hb.grown hg (by omega) (fun k e => by have := hob k e; omega)) (fun k hk hn => hg.block k hk (fun e => hn e.symm))
end

theorem ref_ones1 {h : Array Obj} {F : Nat → Prop} {sv t0 t1 t2 t3 wv : Value} {x : St} {many : Int} (r : RB h F sv t0 t1 t2 t3 x many) (hw : wv.oneCell' = true) (m' room : Int) (dead : Bool) (stops : Int) : (refC m' room sv t0 t1 t2 t3 wv dead stops).all (·.oneCell') = true := by
  obtain ⟨secs, s1, s2, b0, b1, b2, b3⟩ := r
  simp [refC, s1.one, b0.one, b1.one, b2.one, b3.one, hw]
  simp [Value.oneCell']

set_option maxRecDepth 100000 in
set_option maxHeartbeats 4000000 in
theorem rstep_c {w : World} {F : Nat → Prop} {v : Value} {d : D} (hr : RefAt w.heap F v d) (ok : d.ok) (hn : d.waits.length ≤ 1000000000000) (s : Step) {u : Value} (hu : BytesAt w.heap F u s.b) : Calls Try.prog 59 #[v, .agg #[.int .i64 s.what, .int .i64 s.n, .int .i64 s.many, u]] w (GivesRef w F (d.step s)) := by
  obtain ⟨sv, t0, t1, t2, t3, wv, rfl, rb, st⟩ := hr
  obtain ⟨us, hus1, hus2, hus3⟩ := st.src
  have hul : us.length = d.waits.length := by rw [← hus1]; simp
  obtain ⟨wa, wc, rfl, _, _⟩ := st.slice
  obtain ⟨ua, uc, eu⟩ := hu.slice
  generalize s.b.length = ul at eu
  subst eu
  rw [← hul] at hus3
  have HN := Lib.hid (show us.length ≤ 1000000000000 by omega)
  have HL := Lib.hid hul
  obtain ⟨b0, r0, r1, r2, z0⟩ := stepW_facts w (refC d.many d.room sv t0 t1 t2 t3 (.slice wa d.waits.length wc) d.dead d.stops) #[.int .i64 s.what, .int .i64 s.n, .int .i64 s.many, .slice ua ul uc]
  obtain ⟨C, hC⟩ : ∃ C, refC d.many d.room sv t0 t1 t2 t3 (.slice wa d.waits.length wc) d.dead d.stops = C := ⟨_, rfl⟩
  have c7 : C[7]? = some (.slice wa d.waits.length wc) := by rw [← hC]; rfl
  have csz : C.size = 10 := by rw [← hC]; rfl
  rw [hC] at b0 r0 r1 r2 z0
  obtain ⟨W0, hW0⟩ : ∃ W0, stepW w C #[.int .i64 s.what, .int .i64 s.n, .int .i64 s.many, .slice ua ul uc] = W0 := ⟨_, rfl⟩
  rw [hW0] at b0 r0 r1 r2 z0
  have hr0 : RefAt W0.heap (fun k => F k ∧ k < w.heap.size) (.agg C) d := by
    rw [← hC]
    exact ⟨sv, t0, t1, t2, t3, _, rfl, rb.keeps (fun k _ hl => b0.block k hl) (fun k h hl => ⟨h, hl⟩), st.keeps (fun k _ hl => b0.block k hl) (fun k h hl => ⟨h, hl⟩)⟩
  have GO := Lib.hid (rgoes_c hr0 ok)
  have HUS := Lib.hid (And.intro hus1 (And.intro hus2 hus3))
  have HD := Lib.hid (And.intro b0 (And.intro r0 (And.intro hu (And.intro r1 (And.intro r2 (And.intro z0 (And.intro c7 csz)))))))
  rw [hC]
  clear hC hr0 rb st ok b0 r0 r1 r2 z0 hus1 hus2 hus3 hu c7 csz hn hul
  rcases goes_two d with h0 | h0
  · have GO2 := Lib.hid (GO.out.mono (R' := fun e w' => GivesRef W0 (fun k => F k ∧ k < w.heap.size) (d.goes.1, 0) e w') fun e w' ⟨v, h1, h2⟩ => ⟨v, by rw [h0] at h1; exact h1, h2⟩)
    have E0 := Lib.hid h0
    clear GO
    go_enter Try.func59, Try.ntmps59
    go_upto_region 1 with fail
    clear hW0
    go_upto_region 3 with (first
      | (refine wpList_load_row rfl tRDisk (.tmp 2) rfl w.heap.size rfl tRDisk _ (0, 0) _ HD.out.2.1 Try.underlying42 rfl (by rw [infoRD, HD.out.2.2.2.2.2.2.2]) ?_)
      | (go_at_call 60; refine GO2.out.mono ?_; rintro e W1 ⟨v1, rfl, hb1, sv1, u0, u1, u2, u3, wv1, rfl, rb1, st1⟩
         have R1 := Lib.hid (And.intro hb1 (And.intro rb1 st1))
         clear hb1 rb1 st1)
      | (refine wpList_store_abs rfl tRDisk (.tmp 6) (.tmp 11) rfl W1.heap.size _ rfl rfl tRDisk ref0 (heap_alloc_last W1 _) infoRD rfl (ref_ones R1.out.2.1 R1.out.2.2 _ _ _ _) ?_
         intro W2 HW2 HM2 HS2))
    have zz := R1.out.1.size
    have z0 := HD.out.2.2.2.2.2.1
    have z2 : W2.heap.size = W1.heap.size + 1 := by rw [HS2]; simp
    have old : ∀ k o, k < W1.heap.size → W1.heap[k]? = some o → W2.heap[k]? = some o := fun k o hk ho => (HM2.block k (by simp; omega) (by omega)).trans (heap_past hk ho)
    have bw1 : Below w.heap.size w W1 := HD.out.1.trans (R1.out.1.mono (by omega))
    have bw2 : Below w.heap.size w W2 := Moves.new (bw1.alloc (by omega) _) HM2 (by omega)
    have rb2 : RB W2.heap (plus (fun k => F k ∧ k < w.heap.size) W0 W1) sv1 u0 u1 u2 u3 d.goes.1.lasts d.goes.1.many := R1.out.2.1.keeps (fun k _ hl => (HM2.block k (by simp; omega) (by omega)).trans (heap_old_own _ _ _ hl)) (fun _ h _ => h)
    have GG : Hid (∀ k, plus (fun k => F k ∧ k < w.heap.size) W0 W1 k → (F k ∧ k < w.heap.size) ∨ (w.heap.size + 3 ≤ k ∧ k ≠ W1.heap.size)) := fun k hk => by
      rcases hk with hk | hk
      · exact Or.inl hk
      · exact Or.inr ⟨by omega, by omega⟩
    have ROW := Lib.hid (And.intro (And.intro bw2 rb2) (And.intro (And.intro (old _ _ (by omega) ((R1.out.1.block _ (by omega)).trans HD.out.2.1)) (old _ _ (by omega) ((R1.out.1.block _ (by omega)).trans HD.out.2.2.2.1))) (And.intro (old _ _ (by omega) ((R1.out.1.block _ (by omega)).trans HD.out.2.2.2.2.1)) (And.intro HW2.out (show w.heap.size + 3 ≤ W1.heap.size by omega)))))
    have HUL := Lib.hid (show (Value.slice wa d.waits.length wc) = .slice wa us.length wc by rw [HL.out])
    have h0 := E0.out
    clear HM2 HS2 HW2 zz z0 z2 old bw1 bw2 rb2
    have x7 : ∀ x : Wd (Below W2.heap.size W2), x.world.cell? ⟨w.heap.size, 7, none⟩ = some (.slice wa d.waits.length wc) := fun x => (x.ok.cell (p := ⟨w.heap.size, 7, none⟩) (lt_of_row ROW.out.2.1.1)).trans (row_cell ROW.out.2.1.1 HD.out.2.2.2.2.2.2.1)
    have LD : Hid (∀ w', (∃ x : Wd (Below W2.heap.size W2), w' = x.world) → (Instr.loadAt tRStep (.pointer (some ⟨w.heap.size + 1, 0, none⟩))).run Try.prog w' = .ok (.agg #[.int .i64 s.what, .int .i64 s.n, .int .i64 s.many, .slice ua ul uc]) w') := by
      rintro w' ⟨x, rfl⟩
      exact run_loadAt_row ((x.ok.block _ (lt_of_row ROW.out.2.1.2)).trans ROW.out.2.1.2) Try.underlying97 rfl infoRStep1
    have ne : Nonempty (Wd (Below W2.heap.size W2)) := ⟨⟨_, Below.refl _ _⟩⟩
    have H0 := Lib.hid h0
    clear h0
    refine wp_region_hoist (fun w' => ∃ x : Wd (Below W2.heap.size W2), w' = x.world) [8] (by kernel_rfl) ?_
    refine wpAnyI_reads [1, 2, 4] 6 _ ⟨⟨_, (Below.refl _ _).drew⟩, rfl⟩ (by kernel_rfl) ?_
    simp only [List.filterMap_cons, List.filterMap_nil, List.getElem?_toArray, List.getElem?_cons_succ, List.getElem?_cons_zero]
    refine wpHoist_step (fun K hK => ?_); simp only [hoists, sameUpon]; go_simp; refine hK _ ?_; clear hK K
    refine wpHoist_step (fun K hK => ?_); simp only [hoists, sameUpon]; go_simp; refine hK _ ?_; clear hK K
    refine wpHoist_load_run rfl tRStep (.tmp 3) rfl _ LD.out ?_
    refine wpHoist_nil ?_
    refine wpAnyI_two 0 5 5 _ _ _ rfl rfl (by kernel_rfl) ?_ ?_
    · refine wpList_plain rfl fun K hK => ?_
      go_simp
      have hbA : Below W2.heap.size W2 (W2.alloc (.cells #[] tRStep)).drew := ((Below.refl _ _).alloc (Nat.le_refl _) _).drew
      have own0 : (W2.alloc (.cells #[] tRStep)).drew.ownsRow W2.heap.size tRStep 4 (.slice (some ⟨W2.heap.size, 0, none⟩) 0 0) 0 [] := own_none W2
      refine hK _ _ (wpList_nil ⟨rfl, fun _ => ⟨⟨_, hbA⟩, rfl⟩, ?_⟩)
      clear hK K
      have OWA := Lib.hid own0
      have zA : (W2.alloc (.cells #[] tRStep)).drew.heap.size = W2.heap.size + 1 := by show (W2.alloc (.cells #[] tRStep)).heap.size = _; simp
      have ZA := Lib.hid zA
      clear own0 zA
      generalize (W2.alloc (.cells #[] tRStep)).drew = WA at *
      refine wpAnyI_two 3 5 4 _ _ _ rfl rfl (by kernel_rfl) ?_ ?_
      · refine wpList_append_row2 rfl (.tmp 15) (.tmp 17) tRSteps rfl W2.heap.size W2.heap.size W2 hbA (Nat.le_refl _) tRStep (.agg #[.int .i64 0, .int .i64 0, .int .i64 0, .slice none 0 0]) 4 48 Try.underlying40 infoRStep rfl (by decide) _ 0 [] rfl OWA.out _ us.length (flat4 us) HUL.out (HUS.out.2.2.below (ROW.out.1.1.trans (hbA.mono ROW.out.1.1.size))) (by have := HN.out; unfold maxLen; omega) (by have := HN.out; omega) hbA.size ?_
        intro v3 W3 OW3 hb3 _
        rw [Nat.zero_add, List.nil_append] at OW3
        refine wpList_nil ⟨rfl, fun _ => ⟨⟨_, hb3⟩, rfl⟩, ?_⟩
        refine wpAnyI_one 5 3 _ _ rfl (by kernel_rfl) ?_
        refine wpList_plain rfl fun K hK => ?_
        go_simp
        have hb4 : Below W2.heap.size W2 (W3.alloc (.cells #[.int .i64 s.what, .int .i64 s.n, .int .i64 s.many, .slice ua ul uc] tRStep)) := hb3.alloc hb3.size _
        have gb := heap_alloc_last W3 (.cells #[.int .i64 s.what, .int .i64 s.n, .int .i64 s.many, .slice ua ul uc] tRStep)
        have OW4 := Lib.hid (owns_below OW3.out ((Below.refl _ _).alloc (Nat.le_refl _) (.cells #[.int .i64 s.what, .int .i64 s.n, .int .i64 s.many, .slice ua ul uc] tRStep)) (Nat.le_refl _))
        have GB := Lib.hid gb
        refine hK _ _ (wpList_nil ⟨rfl, fun _ => ⟨⟨_, hb4⟩, rfl⟩, ?_⟩)
        clear hK K
        clear gb
        generalize W3.alloc (.cells #[.int .i64 s.what, .int .i64 s.n, .int .i64 s.many, .slice ua ul uc] tRStep) = W4 at *
        generalize W3.heap.size = gn at *
        refine wpAnyI_one 6 2 _ _ rfl (by kernel_rfl) ?_
        refine wpList_append_row rfl (.tmp 18) (.tmp 20) tRSteps rfl W2.heap.size W2.heap.size W2 hb4 (Nat.le_refl _) tRStep (.agg #[.int .i64 0, .int .i64 0, .int .i64 0, .slice none 0 0]) 4 48 Try.underlying40 infoRStep rfl (by decide) _ us.length (flat4 us) rfl OW4.out _ 1 [.int .i64 s.what, .int .i64 s.n, .int .i64 s.many, .slice ua ul uc] rfl (src_one GB.out rfl) (by have := HN.out; unfold maxLen; omega) (by have := HN.out; omega) hb4.size ?_
        intro v' W6 OW6 hb6 _
        obtain ⟨g6, c6, rfl⟩ := own_pos OW6.out (by omega)
        refine wpList_nil ⟨rfl, fun _ => ⟨⟨_, hb6⟩, rfl⟩, ?_⟩
        refine wpAnyI_reads [7] 1 _ ⟨⟨_, hb6⟩, rfl⟩ (by kernel_rfl) ?_
        simp only [List.filterMap_cons, List.filterMap_nil, List.getElem?_toArray, List.getElem?_cons_succ, List.getElem?_cons_zero]
        repeat (refine wpHoist_step (fun K hK => ?_); simp only [hoists, sameUpon]; go_simp; refine hK _ ?_; clear hK K)
        refine wpHoist_nil ?_
        refine wpAnyI_one 8 0 _ _ rfl (by kernel_rfl) ?_
        have q0 := (hb6.block _ (lt_of_row ROW.out.2.2.2.1)).trans ROW.out.2.2.2.1
        have k7 : W6.cell? ⟨W1.heap.size, 7, none⟩ = some wv1 := row_cell q0 rfl
        have f7 : W6.frozen? ⟨W1.heap.size, 7, none⟩ = false := row_free q0 _
        have s0 := heap_setCell_same W6 W1.heap.size 7 _ tRDisk (.slice (some ⟨g6, 0, none⟩) (us.length + 1) c6) q0
        have s2 := (heap_setCell_other W6 ⟨W1.heap.size, 7, none⟩ (w.heap.size + 1 + 1) (.slice (some ⟨g6, 0, none⟩) (us.length + 1) c6) (by have := ROW.out.2.2.2.2; show w.heap.size + 1 + 1 ≠ W1.heap.size; omega)).trans ((hb6.block _ (lt_of_row ROW.out.2.2.1)).trans ROW.out.2.2.1)
        have S0 : Hid ((W6.setCell ⟨W1.heap.size, 7, none⟩ (.slice (some ⟨g6, 0, none⟩) (us.length + 1) c6)).heap[W1.heap.size]? = some (.cells (refC d.goes.1.many d.goes.1.room sv1 u0 u1 u2 u3 (.slice (some ⟨g6, 0, none⟩) (us.length + 1) c6) d.goes.1.dead d.goes.1.stops) tRDisk (0, 0))) := s0
        have S2 := Lib.hid s2
        refine wpList_plain rfl fun K hK => ?_
        go_simp
        refine hK _ _ (wpList_nil ⟨rfl, fun h => absurd (by decide) h, by kernel_rfl, ?_⟩)
        clear hK K
        clear s0 s2 q0 k7 f7
        have HB6 := Lib.hid hb6
        clear hb6
        generalize hW7 : (W6.setCell ⟨W1.heap.size, 7, none⟩ (.slice (some ⟨g6, 0, none⟩) (us.length + 1) c6)) = W7 at *
        have HW7 := Lib.hid hW7
        clear hW7
        go_wp2_with (first
          | (refine wpList_load_row rfl tRDisk (.tmp 6) rfl W1.heap.size rfl tRDisk _ (0, 0) _ S0.out Try.underlying42 rfl infoRD ?_)
          | (refine wpList_store_abs rfl tRDisk (.tmp 4) (.tmp 23) rfl (w.heap.size + 1 + 1) _ rfl rfl tRDisk ref0 S2.out infoRD rfl (ref_ones1 ROW.out.1.2 rfl _ _ _ _) ?_
             intro W8 HW8 HM8 HS8))
        refine bodyPost_ret (results_cell_tmp rfl _ _ (w.heap.size + 1 + 1) _ _ _ _ _ rfl rfl HW8.out Try.underlying42 rfl infoRD) rfl ?_
        rw [← HW7.out] at HM8
        exact step_end H0.out ROW.out.1.1 (by have := ROW.out.2.2.2.2; omega) ROW.out.1.2 GG.out (lt_of_row ROW.out.2.2.2.1) HUS.out.1 HUS.out.2.1 HD.out.2.2.1 HB6.out OW6.out HM8
      · refine wpList_plain rfl fun K hK => ?_
        go_simp
        have hb4 : Below W2.heap.size W2 (WA.alloc (.cells #[.int .i64 s.what, .int .i64 s.n, .int .i64 s.many, .slice ua ul uc] tRStep)) := hbA.alloc hbA.size _
        have gb := heap_alloc_last WA (.cells #[.int .i64 s.what, .int .i64 s.n, .int .i64 s.many, .slice ua ul uc] tRStep)
        have OWB := Lib.hid (owns_below OWA.out ((Below.refl _ _).alloc (Nat.le_refl _) (.cells #[.int .i64 s.what, .int .i64 s.n, .int .i64 s.many, .slice ua ul uc] tRStep)) (Nat.le_refl _))
        have zB : (WA.alloc (.cells #[.int .i64 s.what, .int .i64 s.n, .int .i64 s.many, .slice ua ul uc] tRStep)).heap.size = WA.heap.size + 1 := by simp
        refine hK _ _ (wpList_nil ⟨rfl, fun _ => ⟨⟨_, hb4⟩, rfl⟩, ?_⟩)
        clear hK K
        have GB0 := Lib.hid gb
        have ZB := Lib.hid zB
        clear gb zB
        generalize WA.alloc (.cells #[.int .i64 s.what, .int .i64 s.n, .int .i64 s.many, .slice ua ul uc] tRStep) = WB at *
        refine wpAnyI_one 3 3 _ _ rfl (by kernel_rfl) ?_
        refine wpList_append_row2 rfl (.tmp 15) (.tmp 17) tRSteps rfl W2.heap.size W2.heap.size W2 hb4 (Nat.le_refl _) tRStep (.agg #[.int .i64 0, .int .i64 0, .int .i64 0, .slice none 0 0]) 4 48 Try.underlying40 infoRStep rfl (by decide) _ 0 [] rfl OWB.out _ us.length (flat4 us) HUL.out (HUS.out.2.2.below (ROW.out.1.1.trans (hb4.mono ROW.out.1.1.size))) (by have := HN.out; unfold maxLen; omega) (by have := HN.out; omega) hb4.size ?_
        intro v3 W4 OW4 hb5 hkk
        rw [Nat.zero_add, List.nil_append] at OW4
        have GB : Hid (W4.heap[WA.heap.size]? = some (.cells #[.int .i64 s.what, .int .i64 s.n, .int .i64 s.many, .slice ua ul uc] tRStep (0, 0))) := by
          have hz := ZA.out
          have hz2 := ZB.out
          rw [show W4.heap[WA.heap.size]? = WB.heap[WA.heap.size]? from hkk _ (by omega) (fun e => by have e' : W2.heap.size = WA.heap.size := Option.some.inj e; omega)]
          exact GB0.out
        refine wpList_nil ⟨rfl, fun _ => ⟨⟨_, hb5⟩, rfl⟩, ?_⟩
        clear hkk
        generalize WA.heap.size = gn at *
        refine wpAnyI_one 6 2 _ _ rfl (by kernel_rfl) ?_
        refine wpList_append_row rfl (.tmp 18) (.tmp 20) tRSteps rfl W2.heap.size W2.heap.size W2 hb5 (Nat.le_refl _) tRStep (.agg #[.int .i64 0, .int .i64 0, .int .i64 0, .slice none 0 0]) 4 48 Try.underlying40 infoRStep rfl (by decide) _ us.length (flat4 us) rfl OW4.out _ 1 [.int .i64 s.what, .int .i64 s.n, .int .i64 s.many, .slice ua ul uc] rfl (src_one GB.out rfl) (by have := HN.out; unfold maxLen; omega) (by have := HN.out; omega) hb5.size ?_
        intro v' W6 OW6 hb6 _
        obtain ⟨g6, c6, rfl⟩ := own_pos OW6.out (by omega)
        refine wpList_nil ⟨rfl, fun _ => ⟨⟨_, hb6⟩, rfl⟩, ?_⟩
        refine wpAnyI_reads [7] 1 _ ⟨⟨_, hb6⟩, rfl⟩ (by kernel_rfl) ?_
        simp only [List.filterMap_cons, List.filterMap_nil, List.getElem?_toArray, List.getElem?_cons_succ, List.getElem?_cons_zero]
        repeat (refine wpHoist_step (fun K hK => ?_); simp only [hoists, sameUpon]; go_simp; refine hK _ ?_; clear hK K)
        refine wpHoist_nil ?_
        refine wpAnyI_one 8 0 _ _ rfl (by kernel_rfl) ?_
        have q0 := (hb6.block _ (lt_of_row ROW.out.2.2.2.1)).trans ROW.out.2.2.2.1
        have k7 : W6.cell? ⟨W1.heap.size, 7, none⟩ = some wv1 := row_cell q0 rfl
        have f7 : W6.frozen? ⟨W1.heap.size, 7, none⟩ = false := row_free q0 _
        have s0 := heap_setCell_same W6 W1.heap.size 7 _ tRDisk (.slice (some ⟨g6, 0, none⟩) (us.length + 1) c6) q0
        have s2 := (heap_setCell_other W6 ⟨W1.heap.size, 7, none⟩ (w.heap.size + 1 + 1) (.slice (some ⟨g6, 0, none⟩) (us.length + 1) c6) (by have := ROW.out.2.2.2.2; show w.heap.size + 1 + 1 ≠ W1.heap.size; omega)).trans ((hb6.block _ (lt_of_row ROW.out.2.2.1)).trans ROW.out.2.2.1)
        have S0 : Hid ((W6.setCell ⟨W1.heap.size, 7, none⟩ (.slice (some ⟨g6, 0, none⟩) (us.length + 1) c6)).heap[W1.heap.size]? = some (.cells (refC d.goes.1.many d.goes.1.room sv1 u0 u1 u2 u3 (.slice (some ⟨g6, 0, none⟩) (us.length + 1) c6) d.goes.1.dead d.goes.1.stops) tRDisk (0, 0))) := s0
        have S2 := Lib.hid s2
        refine wpList_plain rfl fun K hK => ?_
        go_simp
        refine hK _ _ (wpList_nil ⟨rfl, fun h => absurd (by decide) h, by kernel_rfl, ?_⟩)
        clear hK K
        clear s0 s2 q0 k7 f7
        have HB6 := Lib.hid hb6
        clear hb6
        generalize hW7 : (W6.setCell ⟨W1.heap.size, 7, none⟩ (.slice (some ⟨g6, 0, none⟩) (us.length + 1) c6)) = W7 at *
        have HW7 := Lib.hid hW7
        clear hW7
        go_wp2_with (first
          | (refine wpList_load_row rfl tRDisk (.tmp 6) rfl W1.heap.size rfl tRDisk _ (0, 0) _ S0.out Try.underlying42 rfl infoRD ?_)
          | (refine wpList_store_abs rfl tRDisk (.tmp 4) (.tmp 23) rfl (w.heap.size + 1 + 1) _ rfl rfl tRDisk ref0 S2.out infoRD rfl (ref_ones1 ROW.out.1.2 rfl _ _ _ _) ?_
             intro W8 HW8 HM8 HS8))
        refine bodyPost_ret (results_cell_tmp rfl _ _ (w.heap.size + 1 + 1) _ _ _ _ _ rfl rfl HW8.out Try.underlying42 rfl infoRD) rfl ?_
        rw [← HW7.out] at HM8
        exact step_end H0.out ROW.out.1.1 (by have := ROW.out.2.2.2.2; omega) ROW.out.1.2 GG.out (lt_of_row ROW.out.2.2.2.1) HUS.out.1 HUS.out.2.1 HD.out.2.2.1 HB6.out OW6.out HM8
    · refine wpList_plain rfl fun K hK => ?_
      go_simp
      have hb4 : Below W2.heap.size W2 (W2.alloc (.cells #[.int .i64 s.what, .int .i64 s.n, .int .i64 s.many, .slice ua ul uc] tRStep)).drew := ((Below.refl _ _).alloc (Nat.le_refl _) _).drew
      have gb : (W2.alloc (.cells #[.int .i64 s.what, .int .i64 s.n, .int .i64 s.many, .slice ua ul uc] tRStep)).drew.heap[W2.heap.size]? = _ := heap_alloc_last W2 (.cells #[.int .i64 s.what, .int .i64 s.n, .int .i64 s.many, .slice ua ul uc] tRStep)
      have zB : (W2.alloc (.cells #[.int .i64 s.what, .int .i64 s.n, .int .i64 s.many, .slice ua ul uc] tRStep)).drew.heap.size = W2.heap.size + 1 := by show (W2.alloc (.cells #[.int .i64 s.what, .int .i64 s.n, .int .i64 s.many, .slice ua ul uc] tRStep)).heap.size = _; simp
      refine hK _ _ (wpList_nil ⟨rfl, fun _ => ⟨⟨_, hb4⟩, rfl⟩, ?_⟩)
      clear hK K
      have GB0 := Lib.hid gb
      have ZB := Lib.hid zB
      clear gb zB
      generalize (W2.alloc (.cells #[.int .i64 s.what, .int .i64 s.n, .int .i64 s.many, .slice ua ul uc] tRStep)).drew = WB at *
      refine wpAnyI_one 0 4 _ _ rfl (by kernel_rfl) ?_
      refine wpList_plain rfl fun K hK => ?_
      go_simp
      have hbA : Below W2.heap.size W2 (WB.alloc (.cells #[] tRStep)) := hb4.alloc hb4.size _
      have own0 := owns_below (own_none WB) (Below.refl _ _) hb4.size
      refine hK _ _ (wpList_nil ⟨rfl, fun _ => ⟨⟨_, hbA⟩, rfl⟩, ?_⟩)
      clear hK K
      have OWA := Lib.hid own0
      have zA : (WB.alloc (.cells #[] tRStep)).heap.size = WB.heap.size + 1 := by simp
      have GB1 := Lib.hid (heap_past (o' := .cells #[] tRStep) (lt_of_row GB0.out) GB0.out)
      have ZA := Lib.hid zA
      clear own0 zA
      generalize WB.alloc (.cells #[] tRStep) = WA at *
      refine wpAnyI_one 3 3 _ _ rfl (by kernel_rfl) ?_
      refine wpList_append_row2 rfl (.tmp 15) (.tmp 17) tRSteps rfl W2.heap.size W2.heap.size W2 hbA (Nat.le_refl _) tRStep (.agg #[.int .i64 0, .int .i64 0, .int .i64 0, .slice none 0 0]) 4 48 Try.underlying40 infoRStep rfl (by decide) _ 0 [] rfl OWA.out _ us.length (flat4 us) HUL.out (HUS.out.2.2.below (ROW.out.1.1.trans (hbA.mono ROW.out.1.1.size))) (by have := HN.out; unfold maxLen; omega) (by have := HN.out; omega) hbA.size ?_
      intro v3 W4 OW4 hb5 hkk
      rw [Nat.zero_add, List.nil_append] at OW4
      have GB : Hid (W4.heap[W2.heap.size]? = some (.cells #[.int .i64 s.what, .int .i64 s.n, .int .i64 s.many, .slice ua ul uc] tRStep (0, 0))) := by
        have hz := ZA.out
        have hz2 := ZB.out
        rw [show W4.heap[W2.heap.size]? = WA.heap[W2.heap.size]? from hkk _ (by omega) (fun e => by have e' : WB.heap.size = W2.heap.size := Option.some.inj e; omega)]
        exact GB1.out
      refine wpList_nil ⟨rfl, fun _ => ⟨⟨_, hb5⟩, rfl⟩, ?_⟩
      clear hkk
      refine wpAnyI_one 6 2 _ _ rfl (by kernel_rfl) ?_
      refine wpList_append_row rfl (.tmp 18) (.tmp 20) tRSteps rfl W2.heap.size W2.heap.size W2 hb5 (Nat.le_refl _) tRStep (.agg #[.int .i64 0, .int .i64 0, .int .i64 0, .slice none 0 0]) 4 48 Try.underlying40 infoRStep rfl (by decide) _ us.length (flat4 us) rfl OW4.out _ 1 [.int .i64 s.what, .int .i64 s.n, .int .i64 s.many, .slice ua ul uc] rfl (src_one GB.out rfl) (by have := HN.out; unfold maxLen; omega) (by have := HN.out; omega) hb5.size ?_
      intro v' W6 OW6 hb6 _
      obtain ⟨g6, c6, rfl⟩ := own_pos OW6.out (by omega)
      refine wpList_nil ⟨rfl, fun _ => ⟨⟨_, hb6⟩, rfl⟩, ?_⟩
      refine wpAnyI_reads [7] 1 _ ⟨⟨_, hb6⟩, rfl⟩ (by kernel_rfl) ?_
      simp only [List.filterMap_cons, List.filterMap_nil, List.getElem?_toArray, List.getElem?_cons_succ, List.getElem?_cons_zero]
      repeat (refine wpHoist_step (fun K hK => ?_); simp only [hoists, sameUpon]; go_simp; refine hK _ ?_; clear hK K)
      refine wpHoist_nil ?_
      refine wpAnyI_one 8 0 _ _ rfl (by kernel_rfl) ?_
      have q0 := (hb6.block _ (lt_of_row ROW.out.2.2.2.1)).trans ROW.out.2.2.2.1
      have k7 : W6.cell? ⟨W1.heap.size, 7, none⟩ = some wv1 := row_cell q0 rfl
      have f7 : W6.frozen? ⟨W1.heap.size, 7, none⟩ = false := row_free q0 _
      have s0 := heap_setCell_same W6 W1.heap.size 7 _ tRDisk (.slice (some ⟨g6, 0, none⟩) (us.length + 1) c6) q0
      have s2 := (heap_setCell_other W6 ⟨W1.heap.size, 7, none⟩ (w.heap.size + 1 + 1) (.slice (some ⟨g6, 0, none⟩) (us.length + 1) c6) (by have := ROW.out.2.2.2.2; show w.heap.size + 1 + 1 ≠ W1.heap.size; omega)).trans ((hb6.block _ (lt_of_row ROW.out.2.2.1)).trans ROW.out.2.2.1)
      have S0 : Hid ((W6.setCell ⟨W1.heap.size, 7, none⟩ (.slice (some ⟨g6, 0, none⟩) (us.length + 1) c6)).heap[W1.heap.size]? = some (.cells (refC d.goes.1.many d.goes.1.room sv1 u0 u1 u2 u3 (.slice (some ⟨g6, 0, none⟩) (us.length + 1) c6) d.goes.1.dead d.goes.1.stops) tRDisk (0, 0))) := s0
      have S2 := Lib.hid s2
      refine wpList_plain rfl fun K hK => ?_
      go_simp
      refine hK _ _ (wpList_nil ⟨rfl, fun h => absurd (by decide) h, by kernel_rfl, ?_⟩)
      clear hK K
      clear s0 s2 q0 k7 f7
      have HB6 := Lib.hid hb6
      clear hb6
      generalize hW7 : (W6.setCell ⟨W1.heap.size, 7, none⟩ (.slice (some ⟨g6, 0, none⟩) (us.length + 1) c6)) = W7 at *
      have HW7 := Lib.hid hW7
      clear hW7
      go_wp2_with (first
        | (refine wpList_load_row rfl tRDisk (.tmp 6) rfl W1.heap.size rfl tRDisk _ (0, 0) _ S0.out Try.underlying42 rfl infoRD ?_)
        | (refine wpList_store_abs rfl tRDisk (.tmp 4) (.tmp 23) rfl (w.heap.size + 1 + 1) _ rfl rfl tRDisk ref0 S2.out infoRD rfl (ref_ones1 ROW.out.1.2 rfl _ _ _ _) ?_
           intro W8 HW8 HM8 HS8))
      refine bodyPost_ret (results_cell_tmp rfl _ _ (w.heap.size + 1 + 1) _ _ _ _ _ rfl rfl HW8.out Try.underlying42 rfl infoRD) rfl ?_
      rw [← HW7.out] at HM8
      exact step_end H0.out ROW.out.1.1 (by have := ROW.out.2.2.2.2; omega) ROW.out.1.2 GG.out (lt_of_row ROW.out.2.2.2.1) HUS.out.1 HUS.out.2.1 HD.out.2.2.1 HB6.out OW6.out HM8
  · have GO2 := Lib.hid (GO.out.mono (R' := fun e w' => GivesRef W0 (fun k => F k ∧ k < w.heap.size) (d.goes.1, 281) e w') fun e w' ⟨v, h1, h2⟩ => ⟨v, by rw [h0] at h1; exact h1, h2⟩)
    clear GO
    have e2 : d.step s = (d.goes.1, 281) := by unfold D.step; rw [if_neg (by omega), h0]
    have E2 := Lib.hid e2
    clear e2 h0
    go_enter Try.func59, Try.ntmps59
    go_upto_region 1 with fail
    clear hW0
    go_wp2_with (first
      | (refine wpList_load_row rfl tRDisk (.tmp 2) rfl w.heap.size rfl tRDisk _ (0, 0) _ HD.out.2.1 Try.underlying42 rfl (by rw [infoRD, HD.out.2.2.2.2.2.2.2]) ?_)
      | (go_at_call 60; refine GO2.out.mono ?_; rintro e W1 ⟨v1, rfl, hb1, sv1, u0, u1, u2, u3, wv1, rfl, rb1, st1⟩
         have R1 := Lib.hid (And.intro hb1 (And.intro rb1 st1))
         clear hb1 rb1 st1)
      | (refine wpList_store_abs rfl tRDisk (.tmp 6) (.tmp 11) rfl W1.heap.size _ rfl rfl tRDisk ref0 (heap_alloc_last W1 _) infoRD rfl (ref_ones R1.out.2.1 R1.out.2.2 _ _ _ _) ?_
         intro W2 HW2 HM2 HS2)
      | (refine wpList_load_row rfl tRDisk (.tmp 6) rfl W1.heap.size rfl tRDisk _ (0, 0) _ HW2.out Try.underlying42 rfl infoRD ?_)
      | (refine wpList_store_abs rfl tRDisk (.tmp 4) (.tmp 23) rfl (w.heap.size + 1 + 1) _ rfl rfl tRDisk ref0 ((HM2.block _ (by have := R1.out.1.size; have := HD.out.2.2.2.2.2.1; simp; omega) (by have := R1.out.1.size; have := HD.out.2.2.2.2.2.1; omega)).trans (heap_past (by have := R1.out.1.size; have := HD.out.2.2.2.2.2.1; omega) ((R1.out.1.block _ (lt_of_row HD.out.2.2.2.2.1)).trans HD.out.2.2.2.2.1))) infoRD rfl (ref_ones R1.out.2.1 R1.out.2.2 _ _ _ _) ?_
         intro W8 HW8 HM8 HS8))
    refine bodyPost_ret (results_cell_tmp rfl _ _ (w.heap.size + 1 + 1) _ _ _ _ _ rfl rfl HW8.out Try.underlying42 rfl infoRD) rfl ?_
    rw [E2.out]
    have zz := R1.out.1.size
    have z0 := HD.out.2.2.2.2.2.1
    have bw1 : Below w.heap.size w W1 := HD.out.1.trans (R1.out.1.mono (by omega))
    have bw2 : Below w.heap.size w W2 := Moves.new (bw1.alloc (by omega) _) HM2 (by omega)
    have bw8 : Below w.heap.size w W8 := Moves.new bw2 HM8 (by omega)
    have keep : ∀ k, plus (fun k => F k ∧ k < w.heap.size) W0 W1 k → k < W1.heap.size → W8.heap[k]? = W1.heap[k]? := fun k hk hl => by
      have hk2 : k ≠ w.heap.size + 1 + 1 := by rcases hk with hk | hk <;> omega
      rw [HM8.block k (by rw [HS2]; simp; omega) hk2, HM2.block k (by simp; omega) (by omega)]
      exact heap_old_own _ _ _ hl
    have big : ∀ k, plus (fun k => F k ∧ k < w.heap.size) W0 W1 k → k < W1.heap.size → plus F w W8 k := fun k hk hl => by
      rcases hk with hk | hk
      · exact Or.inl hk.1
      · exact Or.inr ⟨by omega, by rw [HS8, HS2]; simp; omega⟩
    exact ⟨_, rfl, bw8, sv1, u0, u1, u2, u3, wv1, rfl, R1.out.2.1.keeps keep big, R1.out.2.2.keeps keep big⟩

end Go.Proofs.Ytiefhmbpaoecfaa

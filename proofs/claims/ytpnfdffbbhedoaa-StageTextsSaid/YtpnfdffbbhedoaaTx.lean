/-
  The texts of the stages.
-/
import Derived.Test.YtpnfdffbbhedoaaExt
import Derived.Test.YtpnfdffbbhedoaaIt1
namespace Go.Proofs.Ytpnfdffbbhedoaa
open Go.RowKit Go.Shelf
attribute [local go_sem] Oper.semAt_some

abbrev strC : Array Value := #[.string ⟨#[116, 111, 108, 100]⟩, .string ⟨#[115, 101, 110, 116]⟩, .string ⟨#[110, 101, 97, 114]⟩, .string ⟨#[109, 101, 116]⟩, .string ⟨#[104, 101, 108, 100]⟩, .string ⟨#[101, 110, 100, 115]⟩, .string ⟨#[108, 101, 102, 116]⟩, .string ⟨#[102, 97, 114]⟩, .string ⟨#[108, 97, 115, 116]⟩, .string ⟨#[103, 111, 110, 101]⟩]
def txt (k : Nat) : ByteArray := ([ ⟨#[116, 111, 108, 100]⟩, ⟨#[115, 101, 110, 116]⟩, ⟨#[110, 101, 97, 114]⟩, ⟨#[109, 101, 116]⟩, ⟨#[104, 101, 108, 100]⟩, ⟨#[101, 110, 100, 115]⟩, ⟨#[108, 101, 102, 116]⟩, ⟨#[102, 97, 114]⟩, ⟨#[108, 97, 115, 116]⟩, ⟨#[103, 111, 110, 101]⟩] : List ByteArray).getD k ⟨#[]⟩
theorem str_at {k : Nat} (h : k < 10) : strC[k]? = some (.string (txt k)) := by
  have hk : k = 0 ∨ k = 1 ∨ k = 2 ∨ k = 3 ∨ k = 4 ∨ k = 5 ∨ k = 6 ∨ k = 7 ∨ k = 8 ∨ k = 9 := by omega
  rcases hk with rfl | rfl | rfl | rfl | rfl | rfl | rfl | rfl | rfl | rfl <;> rfl

def ent (k : Nat) : MapEntry := ⟨.int .i64 ((k : Int) + 1), .string (txt k), k⟩
def ents (n : Nat) : Array MapEntry := ((List.range n).map ent).toArray
theorem ents_succ (n : Nat) : ents (n + 1) = (ents n).push (ent n) := by simp [ents, List.range_succ]

theorem find_new : ∀ (l : List Nat) (n i : Nat), (∀ j ∈ l, j < n) → Instr.findNow (.int .i64) (.int .i64 ((n : Int) + 1)) (l.map ent) i = some none := by
  intro l
  induction l with
  | nil => intro n i _; rfl
  | cons j l ih =>
    intro n i h
    have hj := h j (List.mem_cons_self ..)
    have hne : (((n : Int) + 1) == ((j : Int) + 1)) = false := by simp; omega
    simp only [List.map_cons, Instr.findNow, ent, Instr.sameNow, if_true, hne]
    exact ih n (i + 1) (fun j hj => h j (List.mem_cons_of_mem _ hj))

/-- Between two rounds of the loop that fills the map. -/
def TxI (w : World) (k : Nat) (O : Nat → Prop) (W' : World) : Prop :=
  Below w.heap.size w W' ∧ W'.heap[w.heap.size]? = some (.map (ents k) k) ∧ W'.heap[w.heap.size + 1]? = some (.cells #[.map (some w.heap.size)] 73 (0, 0)) ∧ W'.heap[w.heap.size + 2]? = some (.cells strC 9 (0, 0)) ∧
    W'.heap[w.heap.size + 3]? = some (.cells #[.slice (some ⟨w.heap.size + 2, 0, none⟩) 10 10] 81 (0, 0)) ∧ (∀ i, O i → w.heap.size + 6 ≤ i) ∧ w.heap.size + 6 ≤ W'.heap.size

theorem txI_moves {w A B : World} {k : Nat} {O O' : Nat → Prop} (h : TxI w k O A) (hm : Moves O A B) (ho : ∀ i, O' i → O i ∨ A.heap.size ≤ i) : TxI w k O' B := by
  obtain ⟨h1, h2, h3, h4, h5, h6, h7⟩ := h
  have go : ∀ i o, i < w.heap.size + 6 → A.heap[i]? = some o → B.heap[i]? = some o := fun i o hi h => (hm.block i (by omega) (fun e => by have := h6 i e; omega)).trans h
  refine ⟨⟨hm.os.trans h1.os, hm.tape.trans h1.tape, hm.output.trans h1.output, Nat.le_trans h1.size hm.size, fun i hi => ?_⟩, go _ _ (by omega) h2, go _ _ (by omega) h3, go _ _ (by omega) h4, go _ _ (by omega) h5, fun i hi => ?_, Nat.le_trans h7 hm.size⟩
  · exact (hm.block i (by have := h1.size; omega) (fun e => by have := h6 i e; omega)).trans (h1.block i hi)
  · rcases ho i hi with e | e
    · exact h6 i e
    · omega

theorem txI_put {w A : World} {k : Nat} {O : Nat → Prop} (h : TxI w k O A) (d : Nat) (hd : w.heap.size + 4 ≤ d) (o : Obj) : TxI w k O (A.putObj d o) := by
  obtain ⟨h1, h2, h3, h4, h5, h6, h7⟩ := h
  have go : ∀ i x, i < w.heap.size + 4 → A.heap[i]? = some x → (A.putObj d o).heap[i]? = some x := fun i x hi h => (World.putObj_heap_other (by omega)).trans h
  exact ⟨⟨h1.os, h1.tape, h1.output, by simpa using h1.size, fun i hi => (World.putObj_heap_other (by omega)).trans (h1.block i hi)⟩, go _ _ (by omega) h2, go _ _ (by omega) h3, go _ _ (by omega) h4, go _ _ (by omega) h5, h6, by simpa using h7⟩

set_option maxHeartbeats 2000000 in
theorem texts34 (w : World) : Calls Try.prog 34 #[] w fun e w' => e = .returned (.map (some w.heap.size)) ∧ Below w.heap.size w w' ∧ w'.heap[w.heap.size]? = some (.map (ents 10) 10) := by
  refine (callsIn_wide (n := 0)).1 ?_
  refine callsIn_of_wp_marks Try.func34 rfl trivial ?_ rfl
  simp only [Try.ntmps34, List.size_toArray, List.length_cons, List.length_nil, Nat.reduceAdd, Nat.reduceSub, Array.replicate_succ, Array.replicate_zero, List.push_toArray, List.append_toArray, List.nil_append, List.cons_append]
  have hmm := @run_makeMap Try.prog
  gi_wp2_with (refine ⟨trivial, rfl, ?_⟩; gi_at_call 33; refine (callsIn_wide.2 (stages33 _)).mono ?_; rintro e w' ⟨rfl, rfl⟩)
  clear hmm
  have hfresh : TxI w 0 (fun _ => False) ((((((w.alloc (.map #[] 0)).alloc (.cells #[.map (some w.heap.size)] 73)).alloc (.cells strC 9)).alloc (.cells #[.slice (some ⟨w.heap.size + 1 + 1, 0, none⟩) 10 10] 81)).alloc (.deferred (some []))).alloc (.deferred (some []))) := by
    refine ⟨by go_grown, ?_, ?_, ?_, ?_, fun i h => h.elim, by simp only [World.size_alloc]; omega⟩
    all_goals repeat (first | (refine heap_at _ ?_; focus (simp only [World.size_alloc]; done)) | (refine heap_past ?_ ?_; focus (simp only [World.size_alloc]; omega)))
  have HF := Lib.hid hfresh
  clear hfresh
  refine wpIn_rangeIter (gf := 37) (lb := #[]) (encs := fun s : Int => #[.int .i64 s]) (xs := tenL) (R := fun _ => False) (w0 := w) rfl (enters_of Try.func37 (by kernel_rfl) rfl) (stages37 _) (fun _ h => h.elim)
    (by go_grown) (fun _ => rfl) (TxI w) (fun _ _ _ _ => False) (fun k O O' A B h hm _ ho => txI_moves h hm ho) (fun _ _ _ _ _ _ h _ _ _ => h) ?hIb (fun _ _ _ _ _ _ _ h => h) ?h0
    (fun x a' _ => a' = { tmps := #[.map none, .pointer (some ⟨w.heap.size + 1, 0, none⟩), .pointer (some ⟨w.heap.size + 1 + 1 + 1, 0, none⟩), .int .i64 x, .map (some w.heap.size), .slice (some ⟨w.heap.size + 1 + 1, 0, none⟩) 10 10, .func (.func 37) #[] #[], .int .i64 x, undef, undef, undef, undef, undef, undef, undef, undef], defers := [] }) (fun _ _ _ _ _ _ _ h => h) ?assign ?body ?done ?stop
  case hIb =>
    intro k O r o W' _ h
    exact txI_put h _ (by simp only [World.size_alloc]; omega) o
  case h0 =>
    intro W' hb hs
    simp only [World.size_alloc] at hb hs
    obtain ⟨h1, h2, h3, h4, h5, h6, h7⟩ := HF.out
    have go : ∀ i o, i < w.heap.size + 4 → ((((((w.alloc (.map #[] 0)).alloc (.cells #[.map (some w.heap.size)] 73)).alloc (.cells strC 9)).alloc (.cells #[.slice (some ⟨w.heap.size + 1 + 1, 0, none⟩) 10 10] 81)).alloc (.deferred (some []))).alloc (.deferred (some []))).heap[i]? = some o → W'.heap[i]? = some o := by
      intro i o hi h
      rw [heap_alloc_old _ _ _ (by simp only [World.size_alloc]; omega), heap_alloc_old _ _ _ (by simp only [World.size_alloc]; omega)] at h
      exact (hb.block i (by omega)).trans h
    refine ⟨Below.trans (by go_grown) (hb.mono (by omega)), go _ _ (by omega) h2, go _ _ (by omega) h3, go _ _ (by omega) h4, go _ _ (by omega) h5, fun i h => h.elim, by omega⟩
  case assign =>
    intro k x O W' hx hi _ _ _
    gi_wp2
    exact ⟨hi, Keeps.refl _ _, trivial⟩
  case body =>
    rintro k x O a' W' hx hl hd hol hod hi rfl
    have hk : k < 10 := by
      have := (List.getElem?_eq_some_iff.1 hx).1
      rwa [tenL_len] at this
    rw [tenL_at hk] at hx
    obtain rfl : (k : Int) + 1 = x := by simpa using hx
    clear hx hl hd
    simp only [World.size_alloc] at hol hod ⊢
    obtain ⟨h1, h2, h3, h4, h5, h6, h7⟩ := hi
    have c1 : W'.cell? ⟨w.heap.size + 1, 0, none⟩ = some (.map (some w.heap.size)) := by rw [cell_of_row _ _ _ _ _ _ h3]; rfl
    have c3 : W'.cell? ⟨w.heap.size + 1 + 1 + 1, 0, none⟩ = some (.slice (some ⟨w.heap.size + 2, 0, none⟩) 10 10) := by rw [cell_of_row _ _ _ _ _ _ h5]; rfl
    have c2 : W'.cell? ⟨w.heap.size + 2, k, none⟩ = some (.string (txt k)) := by rw [cell_of_row _ _ _ _ _ _ h4]; exact str_at hk
    have hup : (Instr.mapUpdate 73 (.map (some w.heap.size)) (.int .i64 ((k : Int) + 1)) (.string (txt k))).run Try.prog W'.drew = .ok () (W'.drew.putObj w.heap.size (.map (ents (k + 1)) (k + 1))) := by
      rw [run_mapUpdate_new (w := W'.drew) 73 26 9 (.int .i64) w.heap.size (ents k) k _ _ Try.underlying73 Try.underlying26 rfl h2 (find_new _ _ _ (fun j hj => by simpa using hj)), ents_succ]
      rfl
    have HH := Lib.hid (And.intro h1 (And.intro h2 (And.intro h3 (And.intro h4 (And.intro h5 h6)))))
    clear h1 h2 h3 h4 h5 h6
    refine wpIn_block ?_
    refine wpIn_region_still_tail 7 (by kernel_rfl) (by kernel_rfl) (by kernel_rfl) ?_
    simp only [List.take_succ_cons, List.take_zero, List.drop_succ_cons, List.drop_zero]
    have hwr : IntKind.i64.wrap (k : Int) = k := IntWalk.i64_in _ (by omega)
    have hk0 : (0 : Int) ≤ (k : Int) := by omega
    have hk1 : (k : Int) < 10 := by omega
    repeat still_step
    refine wpStill_nil ?_
    clear hwr hk0 hk1
    refine wpList_mapUpdate_run rfl 73 (.tmp 8) (.tmp 9) (.tmp 14) rfl _ hup ?_
    clear hup c1 c2 c3
    obtain ⟨h1, h2, h3, h4, h5, h6⟩ := HH.out
    have other : ∀ i, i ≠ w.heap.size → (W'.drew.putObj w.heap.size (.map (ents (k + 1)) (k + 1))).heap[i]? = W'.heap[i]? := fun i hi => World.putObj_heap_other hi
    refine ⟨rfl, ⟨by simp only [World.putObj_size]; exact Nat.le_refl _, fun i hi _ => other i ?_⟩, ⟨h1.os, h1.tape, h1.output, by simp only [World.putObj_size]; exact h1.size, fun i hi => (other i (by omega)).trans (h1.block i hi)⟩, ?_, (other _ (by omega)).trans h3, (other _ (by omega)).trans h4, (other _ (by omega)).trans h5, h6, by simp only [World.putObj_size]; exact h7⟩
    · rcases hi with h | h | h | h
      · have := h6 i h; omega
      · exact h.elim
      · omega
      · omega
    · exact World.putObj_heap_same (by show w.heap.size < W'.heap.size; omega)
  case done =>
    intro O W2 hi _ hD
    simp only [World.size_alloc] at hD
    have hi' := txI_put hi (w.heap.size + 1 + 1 + 1 + 1) (by omega) (.deferred none)
    have c1 : W2.cell? ⟨w.heap.size + 1, 0, none⟩ = some (.map (some w.heap.size)) := by rw [cell_of_row _ _ _ _ _ _ hi.2.2.1]; rfl
    have HI := Lib.hid hi'
    clear hi hi'
    gi_wp2
    simp only [World.size_alloc]
    refine leaves_mark hD (results_tmp rfl _ _ _) ?_
    exact ⟨rfl, HI.out.1, HI.out.2.1⟩
  case stop =>
    intro c k O W2 _ h
    exact h.elim

end Go.Proofs.Ytpnfdffbbhedoaa

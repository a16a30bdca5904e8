/-
  The stage's text, and the stage of a text.
-/
import Derived.Test.YtpnfdffbbhedoaaTx
namespace Go.Proofs.Ytpnfdffbbhedoaa
open Go.RowKit

theorem find_at : ∀ (n i k : Nat), k < n → Instr.findNow (.int .i64) (.int .i64 ((k : Int) + 1)) ((List.range' i (n - i)).map ent) i = (if i ≤ k then some (some (k, .string (txt k))) else some none) := by
  intro n i
  induction hd : n - i generalizing i with
  | zero =>
    intro k hk
    rw [if_neg (by omega)]
    rfl
  | succ d ih =>
    intro k hk
    rw [List.range'_succ, List.map_cons]
    simp only [Instr.findNow, ent, Instr.sameNow, if_true]
    by_cases hki : k = i
    · subst hki
      simp
    · have hne : (((k : Int) + 1) == ((i : Int) + 1)) = false := by simp; omega
      have := ih (i + 1) (by omega) k hk
      simp only [hne, this]
      by_cases hle : i ≤ k
      · rw [if_pos (by omega), if_pos hle]
      · rw [if_neg (by omega), if_neg hle]

theorem find_none : ∀ (n i : Nat) (s : Int), (s < 1 ∨ (n : Int) < s) → Instr.findNow (.int .i64) (.int .i64 s) ((List.range' i (n - i)).map ent) i = some none := by
  intro n i
  induction hd : n - i generalizing i with
  | zero => intro s hs; rfl
  | succ d ih =>
    intro s hs
    rw [List.range'_succ, List.map_cons]
    simp only [Instr.findNow, ent, Instr.sameNow, if_true]
    have hne : (s == ((i : Int) + 1)) = false := by simp; omega
    simp only [hne]
    exact ih (i + 1) (by omega) s hs

def textI (s : Int) : ByteArray × Int := if s < 1 ∨ 10 < s then (⟨#[]⟩, 2) else (txt (s.toNat - 1), 0)

theorem ents_range (n : Nat) : (ents n).toList = (List.range' 0 (n - 0)).map ent := by simp [ents, List.range_eq_range']

theorem text23 (s : Int) (w : World) :
    Calls Try.prog 23 #[.int .i64 s] w fun e w' => e = .returned (.tuple #[.string (textI s).1, .int .i64 (textI s).2]) ∧ Below w.heap.size w w' := by
  by_cases h : s < 1 ∨ 10 < s
  · have hn : textI s = (⟨#[]⟩, 2) := by simp [textI, h]
    have H := Lib.hid hn
    clear hn
    go_enter Try.func23, Try.ntmps23
    go_wp2_with fail
    refine (texts34 _).mono ?_
    rintro e w1 ⟨rfl, hb, hm⟩
    have hl : (Instr.lookup 73 (.map (some w.heap.size)) (.int .i64 s) true).run Try.prog w1 = .ok (.tuple #[.string ⟨#[]⟩, .bool false]) w1 := by
      rw [run_lookup_at 73 26 9 (.int .i64) w.heap.size (ents 10) 10 (.int .i64 s) (.string ⟨#[]⟩) true none Try.underlying73 Try.underlying26 rfl hm (by rw [ents_range]; exact find_none 10 0 s (by omega)) (by kernel_rfl)]
      rfl
    have HB := Lib.hid hb
    clear hb hm
    go_wp2
    go_ret2
    rw [H.out]
    exact ⟨rfl, HB.out⟩
  · obtain ⟨k, rfl⟩ : ∃ k : Nat, s = (k : Int) + 1 := ⟨(s - 1).toNat, by omega⟩
    have hk : k < 10 := by omega
    have hn : textI ((k : Int) + 1) = (txt k, 0) := by
      simp only [textI]
      rw [if_neg h, show ((k : Int) + 1).toNat - 1 = k by omega]
    have H := Lib.hid hn
    clear hn h
    go_enter Try.func23, Try.ntmps23
    go_wp2_with fail
    refine (texts34 _).mono ?_
    rintro e w1 ⟨rfl, hb, hm⟩
    have hl : (Instr.lookup 73 (.map (some w.heap.size)) (.int .i64 ((k : Int) + 1)) true).run Try.prog w1 = .ok (.tuple #[.string (txt k), .bool true]) w1 := by
      rw [run_lookup_at 73 26 9 (.int .i64) w.heap.size (ents 10) 10 (.int .i64 ((k : Int) + 1)) (.string ⟨#[]⟩) true (some (k, .string (txt k))) Try.underlying73 Try.underlying26 rfl hm (by rw [ents_range, find_at 10 0 k hk]; rfl) (by kernel_rfl)]
      rfl
    have HB := Lib.hid hb
    clear hb hm
    go_wp2
    go_ret2
    rw [H.out]
    exact ⟨rfl, HB.out⟩

abbrev refC : Array Value := #[.string ⟨#[]⟩, .string ⟨#[116, 111, 108, 100]⟩, .string ⟨#[115, 101, 110, 116]⟩, .string ⟨#[110, 101, 97, 114]⟩, .string ⟨#[109, 101, 116]⟩, .string ⟨#[104, 101, 108, 100]⟩, .string ⟨#[101, 110, 100, 115]⟩, .string ⟨#[108, 101, 102, 116]⟩, .string ⟨#[102, 97, 114]⟩, .string ⟨#[108, 97, 115, 116]⟩, .string ⟨#[103, 111, 110, 101]⟩]

theorem refTexts25 (w : World) : Calls Try.prog 25 #[] w fun e w' => e = .returned (.agg refC) ∧ w.alloc (.cells refC 55) = w' := by
  go_enter Try.func25, Try.ntmps25
  go_wp2_with (refine wpList_store_new rfl 55 (.tmp 0) (.tmp 1) rfl _ refC rfl rfl _ (by kernel_rfl) (by kernel_rfl) (by kernel_rfl) ?_)
  refine bodyPost_ret (v := .agg refC) (results_cell_row Try.results25 _ _ w.heap.size _ _ _ _ rfl (heap_alloc_last _ _) Try.underlying55 rfl (by kernel_rfl)) rfl ⟨rfl, ?_⟩
  rfl

end Go.Proofs.Ytpnfdffbbhedoaa

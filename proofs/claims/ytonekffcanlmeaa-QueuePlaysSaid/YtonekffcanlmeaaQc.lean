/- The chapter's example answers true, in whatever memory. -/
import Derived.Test.YtonekffcanlmeaaQb
namespace Go.Proofs.Ytonekffcanlmeaa
open Go.Conc Go.RowKit

theorem only_size {S : Nat → Prop} {w w' : World} (h : Only S w w') : w.heap.size ≤ w'.heap.size := h.size
set_option maxRecDepth 100000 in
theorem awake_true (w : World) : Calls Try.prog 9 #[] w fun e w' => e = .returned (.bool true) ∧ Below w.heap.size w w' := by
  go_enter Try.func9, Try.ntmps9
  go_wp2_with fail
  refine (news_good 2 (by omega) (by omega) _).mono ?_
  rintro e w1 ⟨rfl, hb1, hz1, hq1⟩
  go_wp2_with fail
  refine (puts_yes _ _ _ _ _ _ _ hq1 (by simp)).mono ?_
  rintro e w2 ⟨rfl, hq2, ho2⟩
  go_wp2_with fail
  refine (puts_yes _ _ _ _ _ _ _ hq2 (by simp)).mono ?_
  rintro e w3 ⟨rfl, hq3, ho3⟩
  go_wp2_with fail
  refine (puts_no _ _ _ _ _ _ _ hq3 (by simp)).mono ?_
  rintro e w4 ⟨rfl, hq4, ho4⟩
  go_wp2_with fail
  refine (lens _ _ _ _ _ _ hq4).mono ?_
  rintro e w' ⟨rfl, rfl⟩
  go_wp2_with fail
  refine (rooms _ _ _ _ _ _ hq4 (by simp) (by omega)).mono ?_
  rintro e w' ⟨rfl, n, rfl⟩
  have hq5 := hq4.drewN n
  have ho5 := ho4.drewN n
  go_wp2_with fail
  refine (takes _ _ _ _ _ _ hq5).mono ?_
  rintro e w6 ⟨rfl, hq6, ho6⟩
  go_wp2_with fail
  refine (puts_yes _ _ _ _ _ _ _ hq6 (by simp)).mono ?_
  rintro e w7 ⟨rfl, hq7, ho7⟩
  go_wp2_with fail
  have hq7' : QAt w7 63 (w.heap.size + 1) w.heap.size 2 [.string ⟨#[98]⟩, .string ⟨#[99]⟩] := hq7
  clear hq7
  refine (drains _ _ _ _ _ _ (by decide) hq7' (by simp) (by simp)).mono ?_
  rintro e w8 ⟨v, rfl, hown, hq8, ho8⟩
  obtain ⟨g, cp, rfl, hg1, hg2⟩ := hown.form (by simp)
  simp only [List.length_cons, List.length_nil, Nat.zero_add, Nat.reduceAdd] at hown ⊢
  go_wp2_with fail
  refine (takes _ _ _ _ _ _ hq8).mono ?_
  rintro e w9 ⟨rfl, hq9, ho9⟩
  have hown9 := own_only hown hq8 ho9
  have c0 := hown9.cells (g := g) rfl 0 _ rfl
  have c1 := hown9.cells (g := g) rfl 1 _ rfl
  simp only [Addr.add_lit] at c0 c1
  go_wp2
  go_ret
  refine ⟨rfl, ?_⟩
  have hS : ∀ k, k = w.heap.size → w.heap.size ≤ k := fun k hk => by omega
  have s1 : w1.heap.size ≤ w2.heap.size := ho2.size
  have s2 : w2.heap.size ≤ w3.heap.size := ho3.size
  have hb : Below w.heap.size w1 w9 := ((((((ho2.trans ho3).trans ho5).trans ho6).trans ho7).trans ho8).trans ho9).below hS (by omega)
  exact hb1.trans hb
end Go.Proofs.Ytonekffcanlmeaa

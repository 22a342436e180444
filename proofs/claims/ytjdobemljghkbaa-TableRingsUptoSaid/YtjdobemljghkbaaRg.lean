/- Two rings and a slice of the call's own: what each step does to them. -/
import Derived.Test.YtjdobemljghkbaaRq
import Derived.Laws.BitsLemmas
namespace Go.Proofs.Ytjdobemljghkbaa
open Go.RowKit
attribute [local go_sem ↓] Go.wp_at_zero Go.wp_at_succ

theorem i64_and63 (x : Int) : bits .and .i64 x 63 = (((x % 64).toNat : Nat) : Int) := by
  have h1 : ((BitVec.ofInt 64 x) &&& (BitVec.ofInt 64 63)).toNat = (x % 64).toNat := by
    rw [BitVec.toNat_and, show (BitVec.ofInt 64 63).toNat = 2 ^ 6 - 1 from by decide, Nat.and_two_pow_sub_one_eq_mod, BitVec.toNat_ofInt]
    omega
  show IntKind.i64.wrap _ = _
  rw [IntKind.wrap_i64]
  have h2 : (((BitVec.ofInt IntKind.i64.bits x) &&& (BitVec.ofInt IntKind.i64.bits 63)).toNat) = (x % 64).toNat := h1
  simp only [] at *
  rw [h2]
  omega
def encS (x : Int) : List Value := [.string (zs (x % 64).toNat), .string ⟨#[]⟩]
theorem encS_el (l : List Int) : ∀ x ∈ l.map encS, ∃ y z : ByteArray, x = [.string y, .string z] := by
  intro x hx
  obtain ⟨n, _, rfl⟩ := List.mem_map.1 hx
  exact ⟨_, _, rfl⟩

/-- A ring of numbers, a ring of fields, a slice. -/
def RG (w0 : World) (b b2 : Nat) (li lf lo : List Int) (v : Value) (w : World) : Prop :=
  ∃ g g2, Ring w b 73 3 1 [] g (li.reverse.map encI) ∧ Ring w b2 67 30 2 [] g2 (lf.reverse.map encS) ∧ QRow w (b2 + 1) 3 v (lo.map (Value.int .i64)) ∧
    b < b2 ∧ (∀ k, g = some k → b2 < k) ∧ (∀ k, g2 = some k → b2 < k ∧ g ≠ some k) ∧ (∀ k, v.ownBlock = some k → g ≠ some k ∧ g2 ≠ some k) ∧ Below b w0 w
section
variable {w0 w w' : World} {b b2 : Nat} {li lf lo : List Int} {v : Value}
theorem QRow.only {S : Nat → Prop} {base e : Nat} {xs : List Value} (h : QRow w base e v xs) (ho : Only S w w') (hS : ∀ k, v.ownBlock = some k → ¬ S k) : QRow w' base e v xs := by
  rcases h with h | ⟨g, off, cap, cur, rfl, hb, hh, r⟩
  · exact .inl h
  · exact .inr ⟨g, off, cap, cur, rfl, hb, ho.block' hh (hS g (by simp [Value.ownBlock])), r⟩
theorem RG.below (h : RG w0 b b2 li lf lo v w) (hb : Below w.heap.size w w') : RG w0 b b2 li lf lo v w' := by
  obtain ⟨g, g2, h1, h2, h3, h4, h5, h6, h7, h8⟩ := h
  have l1 := h1.lt
  exact ⟨g, g2, h1.below hb, h2.below hb, h3.only (Only.of_below (fun _ => False) hb) (fun _ _ h => h), h4, h5, h6, h7, belB h8 (by omega) hb⟩
theorem RG.forget (h : RG w0 b b2 li lf lo v w) : b ≤ w.heap.size ∧ Below b w0 w := by
  obtain ⟨g, g2, h1, h2, h3, h4, h5, h6, h7, h8⟩ := h
  exact ⟨Nat.le_of_lt h1.lt.1, h8⟩
theorem RG.ints {g g' g2 : Option Nat} {li' : List Int} (h1 : Ring w b 73 3 1 [] g (li.reverse.map encI)) (h2 : Ring w b2 67 30 2 [] g2 (lf.reverse.map encS)) (h3 : QRow w (b2 + 1) 3 v (lo.map (Value.int .i64)))
    (h4 : b < b2) (h5 : ∀ k, g = some k → b2 < k) (h6 : ∀ k, g2 = some k → b2 < k ∧ g ≠ some k) (h7 : ∀ k, v.ownBlock = some k → g ≠ some k ∧ g2 ≠ some k) (h8 : Below b w0 w)
    (hR : Ring w' b 73 3 1 [] g' (li'.reverse.map encI)) (hO : Only (RS b g) w w') (hg : g' = g ∨ ∃ k, g' = some k ∧ w.heap.size ≤ k) : RG w0 b b2 li' lf lo v w' := by
  have l1 := h1.lt
  have l2 := h2.lt
  refine ⟨g', g2, hR, h2.only hO ?_ ?_, h3.only hO ?_, h4, ?_, ?_, ?_, only_from h8 hO ?_ (by omega)⟩
  · rintro (e | e)
    · omega
    · have := h5 b2 e; omega
  · rintro k hk (e | e)
    · have := (h6 k hk).1; omega
    · exact (h6 k hk).2 e
  · rintro k hk (e | e)
    · have := (h3.lt k hk).1; omega
    · exact (h7 k hk).1 e
  · intro k hk
    rcases hg with rfl | ⟨k', hk', hle⟩
    · exact h5 k hk
    · rw [hk] at hk'; injection hk' with hk'; omega
  · intro k hk
    refine ⟨(h6 k hk).1, fun e => ?_⟩
    rcases hg with rfl | ⟨k', hk', hle⟩
    · exact (h6 k hk).2 e
    · rw [e] at hk'; injection hk' with hk'; have := (l2.2 k hk).1; omega
  · intro k hk
    refine ⟨fun e => ?_, (h7 k hk).2⟩
    rcases hg with rfl | ⟨k', hk', hle⟩
    · exact (h7 k hk).1 e
    · rw [e] at hk'; injection hk' with hk'; have := (h3.lt k hk).2; omega
  · rintro k (e | e)
    · omega
    · have := h5 k e; omega
theorem RG.flds {g g2 g2' : Option Nat} {lf' : List Int} (h1 : Ring w b 73 3 1 [] g (li.reverse.map encI)) (h2 : Ring w b2 67 30 2 [] g2 (lf.reverse.map encS)) (h3 : QRow w (b2 + 1) 3 v (lo.map (Value.int .i64)))
    (h4 : b < b2) (h5 : ∀ k, g = some k → b2 < k) (h6 : ∀ k, g2 = some k → b2 < k ∧ g ≠ some k) (h7 : ∀ k, v.ownBlock = some k → g ≠ some k ∧ g2 ≠ some k) (h8 : Below b w0 w)
    (hR : Ring w' b2 67 30 2 [] g2' (lf'.reverse.map encS)) (hO : Only (RS b2 g2) w w') (hg : g2' = g2 ∨ ∃ k, g2' = some k ∧ w.heap.size ≤ k) : RG w0 b b2 li lf' lo v w' := by
  have l1 := h1.lt
  have l2 := h2.lt
  refine ⟨g, g2', h1.only hO ?_ ?_, hR, h3.only hO ?_, h4, h5, ?_, ?_, only_from h8 hO ?_ (by omega)⟩
  · rintro (e | e)
    · omega
    · have := (h6 b e).1; omega
  · rintro k hk (e | e)
    · have := h5 k hk; omega
    · exact (h6 k e).2 hk
  · rintro k hk (e | e)
    · have := (h3.lt k hk).1; omega
    · exact (h7 k hk).2 e
  · intro k hk
    rcases hg with rfl | ⟨k', hk', hle⟩
    · exact h6 k hk
    · rw [hk] at hk'; injection hk' with hk'
      refine ⟨by omega, fun e => ?_⟩
      have := (l1.2 k e).1
      omega
  · intro k hk
    refine ⟨(h7 k hk).1, fun e => ?_⟩
    rcases hg with rfl | ⟨k', hk', hle⟩
    · exact (h7 k hk).2 e
    · rw [e] at hk'; injection hk' with hk'; have := (h3.lt k hk).2; omega
  · rintro k (e | e)
    · omega
    · have := (h6 k e).1; omega
/-- After the own slice has grown. -/
theorem RG.grown {y : Int} {v1 : Value} {w1 : World} (h : RG w0 b b2 li lf lo v w) (hq : QRow w1 (b2 + 1) 3 v1 ((lo ++ [y]).map (Value.int .i64))) (hg : (w.alloc (.cells #[.int .i64 y] 3)).grownBy w1 v.ownBlock) (hv1 : ∀ k, v1.ownBlock = some k → v.ownBlock = some k ∨ w.heap.size ≤ k) : RG w0 b b2 li lf (lo ++ [y]) v1 w1 := by
  obtain ⟨g, g2, h1, h2, h3, h4, h5, h6, h7, h8⟩ := h
  have l1 := h1.lt
  have l2 := h2.lt
  have hO : Only (fun k => v.ownBlock = some k) w w1 := ((Only.refl _ w).alloc _).grown hg (fun k hk => .inr hk)
  refine ⟨g, g2, h1.only hO ?_ ?_, h2.only hO ?_ ?_, hq, h4, h5, h6, ?_, only_from h8 hO ?_ (by omega)⟩
  · intro e
    have := (h3.lt b e).1; omega
  · intro k hk e
    exact (h7 k e).1 hk
  · intro e
    have := (h3.lt b2 e).1; omega
  · intro k hk e
    exact (h7 k e).2 hk
  · intro k hk
    rcases hv1 k hk with e | e
    · exact h7 k e
    · exact ⟨fun e2 => by have := (l1.2 k e2).1; omega, fun e2 => by have := (l2.2 k e2).1; omega⟩
  · intro k e
    have := (h3.lt k e).1; omega
theorem g_pushi (h : RG w0 b b2 li lf lo v w) (hl : li.length ≤ 2000000) (x : Int) : Calls Try.prog 17 #[.pointer (some ⟨b, 0, none⟩), .int .i64 x] w fun e w' => e = .returned (.tuple #[]) ∧ RG w0 b b2 (li ++ [x]) lf lo v w' := by
  obtain ⟨g, g2, h1, h2, h3, h4, h5, h6, h7, h8⟩ := h
  refine (push_i w b _ [] g _ x h1 (by simpa using hl) (encI_el _)).mono ?_
  rintro e w' ⟨rfl, g', hR, hO, hg⟩
  exact ⟨rfl, RG.ints h1 h2 h3 h4 h5 h6 h7 h8 (by rw [List.reverse_append]; exact hR) hO hg⟩
theorem g_pushf (h : RG w0 b b2 li lf lo v w) (hl : lf.length ≤ 2000000) (x : Int) (n : Nat) (hn : n = (x % 64).toNat) : Calls Try.prog 18 #[.pointer (some ⟨b2, 0, none⟩), .agg #[.string (zs n), .string ⟨#[]⟩]] w fun e w' => e = .returned (.tuple #[]) ∧ RG w0 b b2 li (lf ++ [x]) lo v w' := by
  obtain ⟨g, g2, h1, h2, h3, h4, h5, h6, h7, h8⟩ := h
  subst hn
  refine (push_f w b2 _ [] g2 _ _ _ h2 (by simpa using hl) (encS_el _)).mono ?_
  rintro e w' ⟨rfl, g', hR, hO, hg⟩
  exact ⟨rfl, RG.flds h1 h2 h3 h4 h5 h6 h7 h8 (by rw [List.reverse_append]; exact hR) hO hg⟩
theorem g_popi {x : Int} (h : RG w0 b b2 (x :: li) lf lo v w) (hl : li.length ≤ 2000000) : Calls Try.prog 15 #[.pointer (some ⟨b, 0, none⟩)] w fun e w' => e = .returned (.tuple #[.int .i64 x, .bool true]) ∧ RG w0 b b2 li lf lo v w' := by
  obtain ⟨g, g2, h1, h2, h3, h4, h5, h6, h7, h8⟩ := h
  have h1' := h1
  rw [List.reverse_cons, List.map_append] at h1'
  refine (pop_somei w b _ [] g _ x h1' (by simp; omega)).mono ?_
  rintro e w' ⟨rfl, hR, hO⟩
  exact ⟨rfl, RG.ints h1 h2 h3 h4 h5 h6 h7 h8 hR hO (.inl rfl)⟩
theorem g_popf {x : Int} (h : RG w0 b b2 li (x :: lf) lo v w) (hl : lf.length ≤ 2000000) : Calls Try.prog 16 #[.pointer (some ⟨b2, 0, none⟩)] w fun e w' => e = .returned (.tuple #[.agg #[.string (zs (x % 64).toNat), .string ⟨#[]⟩], .bool true]) ∧ RG w0 b b2 li lf lo v w' := by
  obtain ⟨g, g2, h1, h2, h3, h4, h5, h6, h7, h8⟩ := h
  have h2' := h2
  rw [List.reverse_cons, List.map_append] at h2'
  refine (pop_somef w b2 _ [] g2 _ _ _ h2' (by simp; omega)).mono ?_
  rintro e w' ⟨rfl, hR, hO⟩
  exact ⟨rfl, RG.flds h1 h2 h3 h4 h5 h6 h7 h8 hR hO (.inl rfl)⟩
theorem g_popi0 (h : RG w0 b b2 [] lf lo v w) : Calls Try.prog 15 #[.pointer (some ⟨b, 0, none⟩)] w fun e w' => e = .returned (.tuple #[.int .i64 0, .bool false]) ∧ w = w' := by
  obtain ⟨g, g2, h1, _⟩ := h
  exact pop_nonei w b _ [] g h1
theorem g_popf0 (h : RG w0 b b2 li [] lo v w) : Calls Try.prog 16 #[.pointer (some ⟨b2, 0, none⟩)] w fun e w' => e = .returned (.tuple #[.agg #[.string ⟨#[]⟩, .string ⟨#[]⟩], .bool false]) ∧ Below w.heap.size w w' := by
  obtain ⟨g, g2, h1, h2, _⟩ := h
  exact pop_nonef w b2 _ [] g2 h2
theorem g_leni (h : RG w0 b b2 li lf lo v w) : Calls Try.prog 21 #[.pointer (some ⟨b, 0, none⟩)] w fun e w' => e = .returned (.int .i64 (li.length : Int)) ∧ w = w' := by
  obtain ⟨g, g2, h1, _⟩ := h
  exact len_i w b _ [] g _ _ (by simp) h1
theorem g_lenf (h : RG w0 b b2 li lf lo v w) : Calls Try.prog 22 #[.pointer (some ⟨b2, 0, none⟩)] w fun e w' => e = .returned (.int .i64 (lf.length : Int)) ∧ w = w' := by
  obtain ⟨g, g2, h1, h2, _⟩ := h
  exact len_f w b2 _ [] g2 _ _ (by simp) h2
theorem g_atout (h : RG w0 b b2 li lf lo v w) (i : Int) (hi : i < 0 ∨ (li.length : Int) ≤ i) : Calls Try.prog 20 #[.pointer (some ⟨b, 0, none⟩), .int .i64 i] w fun e w' => e = .returned (.tuple #[.int .i64 0, .bool false]) ∧ w = w' := by
  obtain ⟨g, g2, h1, _⟩ := h
  exact at_outi w b _ [] g _ i h1 (by simpa using hi)
theorem g_atin (h : RG w0 b b2 li lf lo v w) (i : Nat) (hi : i < li.length) (j : Nat) (hj : j + i + 1 = li.length) : Calls Try.prog 20 #[.pointer (some ⟨b, 0, none⟩), .int .i64 (i : Int)] w fun e w' => e = .returned (.tuple #[.int .i64 (li.getD j 0), .bool true]) ∧ RG w0 b b2 li lf lo v w' := by
  obtain ⟨g, g2, h1, r⟩ := h
  refine (at_ini w b _ [] g _ i (li.getD j 0) h1 ?_).mono ?_
  · rw [List.getElem?_map, List.getElem?_reverse hi, show li.length - 1 - i = j by omega, List.getElem?_eq_getElem (by omega), List.getD_eq_getElem?_getD, List.getElem?_eq_getElem (by omega)]
    rfl
  · rintro e w' ⟨rfl, n, rfl⟩
    exact ⟨rfl, RG.below ⟨g, g2, h1, r⟩ (below_drewN' (Below.refl _ _) n)⟩
end
end Go.Proofs.Ytjdobemljghkbaa

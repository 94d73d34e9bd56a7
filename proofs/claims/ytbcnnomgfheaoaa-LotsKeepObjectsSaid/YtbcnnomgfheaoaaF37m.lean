/-
 Layer 37 (chunk), continued: strings.Join, by the library's own contract.
 Conditions: of each contract as it says.
-/
import Derived.Test.YtbcnnomgfheaoaaF37i
import Derived.Shelf.Strings.OnBuilder
namespace Go.Proofs.Ytbcnnomgfheaoaa
open Go Go.E2 C37 Go.RowKit
set_option linter.unusedSimpArgs false
def joinRen : Go.Shelf.Ren := ⟨fun | 156 => 34 | 165 => 49 | 166 => 50 | 169 => 51 | 240 => 58 | 241 => 59 | 276 => 62 | 277 => 63 | n => n, fun | 31 => 25 | 9 => 9 | 3 => 3 | 4 => 4 | 0 => 0 | 20 => 20 | 72 => 103 | 76 => 107 | 70 => 100 | 37 => 101 | 75 => 106 | 127 => 115 | 164 => 118 | 5 => 5 | 80 => 109 | n => n, fun | n => n⟩
theorem joinLays : Go.Proofs.Lays.n156 Try.prog joinRen := {
 mixed := by kernel_rfl
 f156 := Try.func34.trans (congrArg some (by kernel_rfl))
 f165 := Try.func49.trans (congrArg some (by kernel_rfl))
 f166 := Try.func50.trans (congrArg some (by kernel_rfl))
 f169 := Try.func51.trans (congrArg some (by kernel_rfl))
 f240 := Try.func58.trans (congrArg some (by kernel_rfl))
 f241 := Try.func59.trans (congrArg some (by kernel_rfl))
 f276 := Try.func62.trans (congrArg some (by kernel_rfl))
 f277 := Try.func63.trans (congrArg some (by kernel_rfl))
 t0 := Try.underlying0
 a0 := Try.isAgg0
 z0 := Try.sizeOf0
 v0 := Try.zeroValue0
 t3 := Try.underlying3
 a3 := Try.isAgg3
 z3 := Try.sizeOf3
 v3 := Try.zeroValue3
 t4 := Try.underlying4
 a4 := Try.isAgg4
 z4 := Try.sizeOf4
 v4 := Try.zeroValue4
 t9 := Try.underlying9
 a9 := Try.isAgg9
 z9 := Try.sizeOf9
 v9 := Try.zeroValue9
 t20 := Try.underlying20
 a20 := Try.isAgg20
 z20 := Try.sizeOf20
 v20 := Try.zeroValue20
 t31 := Try.underlying25
 a31 := Try.isAgg25
 z31 := Try.sizeOf25
 v31 := Try.zeroValue25
 t37 := Try.underlying101
 a37 := Try.isAgg101
 z37 := Try.sizeOf101
 v37 := Try.zeroValue101
 t70 := Try.underlying100
 a70 := Try.isAgg100
 z70 := Try.sizeOf100
 v70 := Try.zeroValue100
 t72 := Try.underlying103
 a72 := Try.isAgg103
 z72 := Try.sizeOf103
 v72 := Try.zeroValue103
 t75 := Try.underlying106
 a75 := Try.isAgg106
 z75 := Try.sizeOf106
 v75 := Try.zeroValue106
 t76 := Try.underlying107
 a76 := Try.isAgg107
 z76 := Try.sizeOf107
 v76 := Try.zeroValue107
 t127 := Try.underlying115
 a127 := Try.isAgg115
 z127 := Try.sizeOf115
 v127 := Try.zeroValue115
 t164 := Try.underlying118
 a164 := Try.isAgg118
 z164 := Try.sizeOf118
 v164 := Try.zeroValue118 }
theorem joinExtra : Builder.Extra Try.prog joinRen where
 sizeBuilder := by kernel_rfl
 liesBuilder := by kernel_rfl
 t5 := Try.underlying5
 a5 := Try.isAgg5
 z5 := Try.sizeOf5
 v5 := Try.zeroValue5
 infoByte := by kernel_rfl
 cellsByte := by kernel_rfl
 sizeByte := by kernel_rfl
 neB5 := by decide
theorem joinCalled : Called Try.prog f_strings_Join := ⟨_, _, Try.func34, rfl, by kernel_rfl⟩
theorem flat_str : ∀ xs : List Str, flat (xs.map D.str) = xs.map D.str
 | [] => rfl
 | x :: r => by
   have ih := flat_str r
   simp only [flat, List.map_cons, List.flatMap_cons, D.cells, List.singleton_append] at ih ⊢
   rw [ih]
theorem join_flat (xs : List Str) : Lib.join xs [] = xs.flatten := by
 cases xs with
 | nil => rfl
 | cons x r =>
  rw [Lib.join_cons, Lib.joinTail]
  simp
theorem evo_of_below {S : Stb} {O : Nat → Prop} {w w' : World} (h : Below w.heap.size w w') : Evo w.heap.size O S w S w' :=
 ⟨h.size, fun b hb _ => h.block b hb, fun _ _ => rfl, Sub.refl S, h.os, h.tape, h.output⟩
theorem Join_ok (xs : List Str) (hl : xs.length ≤ 1000000) (ht : xs.flatten.length ≤ 1000000000) : CallP Try.prog f_strings_Join [.list (xs.map .str), .str []] (· = .d (.str xs.flatten)) := by
 intro S ms w args m0 hs2 hrel hargs _
 have a0 := hargs 0
 have a1 := hargs 1
 obtain ⟨v0, v1, rfl⟩ : ∃ v0 v1, args = #[v0, v1] := by
  rcases args with ⟨l⟩
  match l, hs2 with
  | [x, y], _ => exact ⟨x, y, rfl⟩
 have h0 : VRD S (.list (xs.map .str)) v0 := a0
 have h1 : VRD S (.str []) v1 := a1
 obtain ⟨sep, hsep, rfl⟩ : ∃ sep : ByteArray, sep.data.toList = [] ∧ v1 = .string sep := by cases h1; rename_i l h; exact ⟨_, h, rfl⟩
 have hr0 : RelH S ms [] noGh w := hrel
 have fin : ∀ w', Below w.heap.size w w' → Post S ms w [] noGh (fun r σ' G' => σ' = [] ∧ G' = noGh ∧ (fun x => x = AV.d (D.str xs.flatten)) r) (.string ⟨xs.flatten.toArray⟩) w' := by
  intro w' hb
  refine ⟨S, .d (.str xs.flatten), [], noGh, ⟨rfl, rfl, rfl⟩, ⟨fun ad v hs => ?_, hr0.len, fun ⟨x, m, h1, _⟩ => by simp at h1, fun ⟨x, m, h1, _⟩ => by simp at h1, fun ⟨x, m, h1, _⟩ => by simp at h1, fun h => (by cases h), fun h => (by cases h), fun h => (by cases h), RelX.none⟩,
   evo_of_below hb, Shape.refl _, VRD.str _ _ rfl, OldG.refl _ _ _ _⟩
  have hc := hr0.sub _ _ hs
  have hlt := hr0.S_lt hs
  simpa [World.cell?, hb.block _ hlt] using hc
 rcases h0.list_inv with ⟨he, rfl⟩ | ⟨a, cap, c, rfl, hsp, hcap, _, hcv, hcS⟩
 · have : xs = [] := by simpa using he
   subst this
   refine .inl ⟨joinCalled, (Any.strings_Join_none joinLays joinExtra none 0 sep w).mono fun e w' ⟨he, hw⟩ => ⟨_, he, ?_⟩⟩
   subst hw
   exact fin _ (Below.refl _ _)
 · by_cases hx : xs = []
   · subst hx
     refine .inl ⟨joinCalled, (Any.strings_Join_none joinLays joinExtra (some a) cap sep w).mono fun e w' ⟨he, hw⟩ => ⟨_, he, ?_⟩⟩
     subst hw
     exact fin _ (Below.refl _ _)
   · rw [flat_str] at hcv
     have hcl : c.length = xs.length := by rw [hcv.1, List.length_map]
     have hstr : ∀ j (h : j < c.length), ∃ b : ByteArray, c[j] = .string b ∧ b.data.toList = xs[j]'(by omega) := fun j h => by
      have h2 := hcv.2 j (.str (xs[j]'(by omega))) c[j] (by simp [hcl ▸ h]) (List.getElem?_eq_getElem h)
      generalize c[j] = v at h2
      cases h2
      rename_i b hb
      exact ⟨b, rfl, hb⟩
     let bs : List ByteArray := c.map fun v => match v with | .string b => b | _ => ⟨#[]⟩
     have hbl : bs.length = xs.length := by simp only [bs, List.length_map]; exact hcl
     have hbx : bs.map (·.data.toList) = xs := by
      apply List.ext_getElem (by rw [List.length_map, hbl])
      intro j h1 h2
      obtain ⟨b, e1, e2⟩ := hstr j (by omega)
      simp only [bs, List.getElem_map, e1, e2]
     have hcells : ∀ (j : Nat) x, bs[j]? = some x → w.cell? ⟨a.block, a.off + j, none⟩ = some (.string x) := fun j x hj => by
      obtain ⟨hlt, hj'⟩ := List.getElem?_eq_some_iff.1 hj
      obtain ⟨b, e1, e2⟩ := hstr j (by omega)
      simp only [bs, List.getElem_map, e1] at hj'
      subst hj'
      exact hrel.sub _ _ (hcS j _ (by rw [List.getElem?_eq_getElem (by omega), e1]))
     have hblk : a.block < w.heap.size := by
      have hp : 0 < bs.length := by rw [hbl]; exact List.length_pos_iff.2 hx
      have h3 := hcells 0 bs[0] (List.getElem?_eq_getElem hp)
      rcases Nat.lt_or_ge a.block w.heap.size with h | h
      · exact h
      · rw [cell_none_of_size (by exact h)] at h3; cases h3
     have hsp := hsp (by have := List.length_pos_iff.2 hx; simp only [List.length_map] at hcap; omega)
     have ha : a = ⟨a.block, a.off, none⟩ := by cases a; simp at hsp; simp [hsp]
     have h := Any.strings_Join joinLays joinExtra a.block a.off cap bs sep w hcells hblk (by omega) (by rw [hbl]; simpa using hcap) (by rw [hbx, hsep, join_flat]; omega)
     rw [hbx, hsep, join_flat, ← ha, hbl] at h
     rw [List.length_map]
     exact .inl ⟨joinCalled, h.mono fun e w' ⟨he, hw⟩ => ⟨_, he, fin _ hw⟩⟩
end Go.Proofs.Ytbcnnomgfheaoaa

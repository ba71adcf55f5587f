/- Several of my texts in one: CmpS, CmpP. -/
import Derived.Test.YtooghdnlaonkaaaDw17
import Derived.Test.YtooghdnlaonkaaaShelf
import Derived.Lib.RowBridge
/- slices.Compact of a call's own slice of strings, by the shelf's contract. -/
namespace Go.Proofs.Ytooghdnlaonkaaa
open Go.RowKit

theorem Fr.setCellsAtS {w0 : World} {L : List Ent} {T : TypeId} {g n cap : Nat} : ∀ (vs pre : List Value) (w : World) (post : List Value), Fr w0 w (⟨T, .slice (some ⟨g, 0, .none⟩) n cap, pre ++ post⟩ :: L) → vs.length = post.length →
    Fr w0 (w.setCells g pre.length vs) (⟨T, .slice (some ⟨g, 0, .none⟩) n cap, pre ++ vs⟩ :: L)
  | [], pre, w, post, h, hl => by
    rw [List.eq_nil_of_length_eq_zero hl.symm] at h; exact h
  | v :: vs, pre, w, [], h, hl => by simp at hl
  | v :: vs, pre, w, p :: post, h, hl => by
    have h1 := h.set pre.length v
    rw [List.set_append_right _ _ (Nat.le_refl _), Nat.sub_self, List.set_cons_zero, show pre ++ v :: post = (pre ++ [v]) ++ post from by simp] at h1
    have h2 := Fr.setCellsAtS vs (pre ++ [v]) _ post h1 (by simpa using hl)
    rw [List.length_append, List.length_singleton] at h2
    rw [World.setCells, show pre ++ v :: vs = (pre ++ [v]) ++ vs from by simp]
    exact h2

/-- the letters of each -/
def lets (l : List ByteArray) : List (List UInt8) := l.map fun s => s.data.toList
def ofLets (l : List (List UInt8)) : List ByteArray := l.map fun s => ⟨s.toArray⟩
theorem ofLets_lets (l : List ByteArray) : ofLets (lets l) = l := by
  unfold ofLets lets
  rw [List.map_map]
  conv => rhs; rw [← List.map_id l]
  exact List.map_congr_left fun s _ => rfl
/-- what stays of a row of names -/
def cmpS (l : List ByteArray) : List ByteArray := ofLets (Lib.compact (lets l))
theorem slCompS {w0 : World} {L : List Ent} (l : List ByteArray) (n cap : Nat) (ad : Option Addr) (w : World) (hF : Fr w0 w (⟨9, .slice ad n cap, strV l⟩ :: L)) (hn : n ≤ 9223372036854775807) :
    Calls Try.prog 134 #[.slice ad n cap] w fun e w' => e = .returned (.slice ad (cmpS l).length cap) ∧ ∃ r, r.length = n ∧ r.take (cmpS l).length = cmpS l ∧ (cmpS l).length ≤ n ∧ Fr w0 w' (⟨9, .slice ad n cap, strV r⟩ :: L) := by
  have hlen := hF.len
  rw [strV_len] at hlen
  cases ad with
  | none =>
    obtain ⟨rfl, rfl⟩ := hF.none rfl
    obtain rfl := List.eq_nil_of_length_eq_zero hlen.symm
    exact (Try.slices_Compact_string_empty none 0 w).mono fun e w' ⟨h1, h2⟩ => ⟨h1, [], rfl, rfl, Nat.le_refl _, by subst h2; exact hF⟩
  | some ad =>
    have hO := hF.os.own _ List.mem_cons_self
    rcases hO.elim with ⟨_, ⟨h, _⟩ | ⟨g, cur, h, _⟩⟩
    · cases h
    · cases h
      have hS : Lib.strsOf (fun i => l.getD i ⟨#[]⟩) n = lets l := by
        unfold Lib.strsOf lets
        apply List.ext_getElem (by simp [hlen])
        intro i h1 h2
        simp at h1 h2
        simp [h2]
      have hcell : ∀ i, i < n → w.cell? ⟨g, 0 + i, none⟩ = some (.string (l.getD i ⟨#[]⟩)) := fun i hi => by
        obtain ⟨g', e, _, _, c, _⟩ := hF.open (by rw [strV_len]; omega)
        cases e
        rw [Nat.zero_add, c i (by rw [strV_len]; omega)]
        unfold strV
        rw [List.getElem?_map, List.getElem?_eq_getElem (by omega)]
        simp [show i < l.length by omega]
      have hfz : ∀ j, j < n → w.frozen? ⟨g, 0 + j, none⟩ = false := fun j hj => by
        obtain ⟨g', e, _, _, _, z⟩ := hF.open (by rw [strV_len]; omega)
        cases e
        rw [Nat.zero_add]; exact z j
      refine (Try.slices_Compact_string_cells g 0 n cap (fun i => l.getD i ⟨#[]⟩) w hn hF.cap hcell hfz).mono ?_
      rw [hS]
      rintro e w' ⟨rfl, q, rfl⟩
      have hle : (Lib.compact (lets l)).length ≤ n := by have := Lib.compact_length_le (lets l); unfold lets at this ⊢; rw [List.length_map] at this; omega
      have hcl : (cmpS l).length = (Lib.compact (lets l)).length := by unfold cmpS ofLets; rw [List.length_map]
      refine ⟨by rw [hcl], ofLets (Lib.compact (lets l) ++ List.replicate (n - (Lib.compact (lets l)).length) []), ?_, ?_, by rw [hcl]; exact hle, ?_⟩
      · unfold ofLets; rw [List.length_map, List.length_append, List.length_replicate]; omega
      · unfold cmpS ofLets
        rw [List.map_append, List.take_left' (by simp)]
      · have h2 := Fr.setCellsAtS (strV (ofLets (Lib.compact (lets l) ++ List.replicate (n - (Lib.compact (lets l)).length) []))) [] (w.drewN q) (strV l) (by simpa using hF.drewN q) (by rw [strV_len, strV_len]; unfold ofLets; rw [List.length_map, List.length_append, List.length_replicate]; omega)
        rw [List.nil_append, List.length_nil] at h2
        have e : strV (ofLets (Lib.compact (lets l) ++ List.replicate (n - (Lib.compact (lets l)).length) [])) = (Lib.compact (lets l) ++ List.replicate (n - (Lib.compact (lets l)).length) []).map encStr := by
          unfold strV ofLets; rw [List.map_map]; rfl
        rw [← e]
        exact h2
end Go.Proofs.Ytooghdnlaonkaaa
/- Compact of a row in order: strictly in order, and it holds the same. -/
namespace Go.Proofs.Ytooghdnlaonkaaa
open Go.RowKit

section
variable {α : Type} [Inhabited α] [DecidableEq α] {lt : α → α → Prop}
theorem cuTo_in (tr : ∀ a b c, lt a b → lt b c → lt a c) (d : Array α) (hs : ∀ i j, i < j → j < d.size → lt d[i]! d[j]! ∨ d[i]! = d[j]!) : ∀ m, m ≤ d.size → (Lib.compactUpTo d m).Pairwise lt ∧ ∀ e, e ∈ Lib.compactUpTo d m ↔ ∃ j, j < m ∧ d[j]! = e
  | 0, _ => ⟨by simp [Lib.compactUpTo], fun e => by simp [Lib.compactUpTo]⟩
  | m + 1, h => by
    obtain ⟨i1, i2⟩ := cuTo_in tr d hs m (by omega)
    rw [Lib.compactUpTo_succ]
    by_cases hk : Lib.keeps d m = true
    · rw [if_pos hk]
      unfold Lib.keeps at hk
      have hk := of_decide_eq_true hk
      refine ⟨List.pairwise_append.2 ⟨i1, List.pairwise_singleton _ _, fun e he y hy => ?_⟩, fun e => ?_⟩
      · obtain ⟨j, hj, rfl⟩ := (i2 e).1 he
        have hy : y = d[m]! := by simpa using hy
        subst hy
        rcases hk with hk | hk
        · omega
        · have h1 : lt d[m - 1]! d[m]! := by
            rcases hs (m - 1) m (by omega) (by omega) with h | h
            · exact h
            · exact absurd h.symm hk
          rcases Nat.lt_or_ge j (m - 1) with h2 | h2
          · rcases hs j (m - 1) h2 (by omega) with h3 | h3
            · exact tr _ _ _ h3 h1
            · rw [h3]; exact h1
          · have : j = m - 1 := by omega
            rw [this]; exact h1
      · rw [List.mem_append, i2]
        constructor
        · rintro (⟨j, hj, h⟩ | h)
          · exact ⟨j, by omega, h⟩
          · exact ⟨m, by omega, by have : e = d[m]! := by simpa using h
                                   exact this.symm⟩
        · rintro ⟨j, hj, hje⟩
          rcases Nat.lt_or_ge j m with h2 | h2
          · exact .inl ⟨j, h2, hje⟩
          · have : j = m := by omega
            subst this
            exact .inr (by rw [List.mem_singleton]; exact hje.symm)
    · rw [if_neg hk, List.append_nil]
      refine ⟨i1, fun e => ?_⟩
      rw [i2]
      have hk : m ≠ 0 ∧ d[m]! = d[m - 1]! := by
        unfold Lib.keeps at hk
        rw [decide_eq_true_eq] at hk
        refine ⟨fun h => hk (.inl h), Decidable.byContradiction fun h => hk (.inr h)⟩
      constructor
      · rintro ⟨j, hj, hje⟩; exact ⟨j, by omega, hje⟩
      · rintro ⟨j, hj, hje⟩
        rcases Nat.lt_or_ge j m with h2 | h2
        · exact ⟨j, h2, hje⟩
        · have : j = m := by omega
          subst this
          exact ⟨j - 1, by omega, by rw [← hk.2]; exact hje⟩
theorem compact_in (tr : ∀ a b c, lt a b → lt b c → lt a c) (zs : List α) (hs : zs.Pairwise (fun a b => lt a b ∨ a = b)) : (Lib.compact zs).Pairwise lt ∧ ∀ e, e ∈ Lib.compact zs ↔ e ∈ zs := by
  have hget : ∀ i, i < zs.length → zs.toArray[i]! = zs[i]! := fun i hi => by simp [hi]
  have h := cuTo_in tr zs.toArray (fun i j hij hj => by
    have hj' : j < zs.length := by simpa using hj
    have := (List.pairwise_iff_getElem.1 hs) i j (by omega) hj' hij
    simpa [hj', show i < zs.length by omega] using this) zs.length (by simp)
  refine ⟨h.1, fun e => ?_⟩
  unfold Lib.compact
  rw [h.2]
  constructor
  · rintro ⟨j, hj, rfl⟩
    simp [hj]
  · intro he
    obtain ⟨j, hj, rfl⟩ := List.getElem_of_mem he
    exact ⟨j, hj, by simp [hj]⟩
end
end Go.Proofs.Ytooghdnlaonkaaa

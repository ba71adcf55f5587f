/- What the frame of a law tells of a slice of structs of ints, bools and strings that came in. -/
import Derived.Test.YtfompfaepabpgaaArr4
import Derived.OpenShut
import Derived.Deep.Slices
import Derived.Deep.Fields
import Derived.ChangeSame
namespace Go.Proofs.Ytfompfaepabpgaa
open Go.RowKit Go.ChangeShapes Go.WideShapes Go.Deep

/-- a field of one cell -/
inductive FK
  | int | bool | str
def FK.desc : FK → TypeDesc
  | .int => .int .i64
  | .bool => .bool
  | .str => .string
def FK.fits : FK → Value → Prop
  | .int, v => ∃ n : Int, v = .int .i64 n
  | .bool, v => ∃ b : Bool, v = .bool b
  | .str, v => ∃ s : ByteArray, v = .string s ∧ s.size ≤ maxLen
section
variable {H : Type} {enc : TypeId × Value → H} {P : Program} {w : World} {base : Nat} {spare : Nat → Bool} {held : Bool}
theorem open_structs {t e : TypeId} {fs : Array Field} (ks : List FK) {fuel : Nat} {cs : List Value} {x : DataW H × List MemPlace} (ht : P.underlying t = some (.slice e)) (he : P.underlying e = some (.struct fs))
    (hone : oneCellFields P fs = true) (hC : P.cellsOf e = fs.size) (hks : ∀ (j : Nat) (k : FK), ks[j]? = some k → ∃ f : Field, fs[j]? = some f ∧ P.underlying f.type = some k.desc) (h : DataW.trod enc P w base spare held fuel t cs = some x) :
    cs = [.slice none 0 0] ∨
    ∃ (a : Addr) (len cap : Nat), cs = [.slice (some a) len cap] ∧ len ≤ cap ∧ cap ≤ maxLen ∧
      ∀ i, i < len → ∀ (j : Nat) (k : FK), ks[j]? = some k → ∃ v, w.cell? (a.add (i * fs.size + j)) = some v ∧ k.fits v := by
  rcases open_slice ht h with ⟨h0, _⟩ | ⟨a, len, cap, m, n, D, Pl, hcs, hb, hl, hm, hmm, hx, hi⟩
  · exact .inl h0
  · refine .inr ⟨a, len, cap, hcs, hl, hm, fun i him j k hk => ?_⟩
    obtain ⟨f, hj, hu⟩ := hks j k hk
    have hmi : i < m := by rw [hmm]; split <;> omega
    obtain ⟨cs', hc, ht'⟩ := hi i hmi
    rw [hC] at hc
    obtain ⟨ys, n', hn', hy, hlen, hyl, hf⟩ := DataW.trod_struct he ht'
    obtain ⟨_, hcl, hat⟩ := World.cells?_some hc
    obtain ⟨ho, hk'⟩ := hone_of hone j f hj
    have hjl : j < fs.size := (Array.getElem?_eq_some_iff.1 hj).1
    have hcell := hat j hjl
    have hv : cs'[j]? = some (cs'[j]'(by omega)) := List.getElem?_eq_getElem (by omega)
    have h1 := hf j f hj
    rw [ho, hk'] at h1
    have hone' : (cs'.drop j).take 1 = [cs'[j]'(by omega)] := by
      rw [List.drop_eq_getElem_cons (by omega)]
      rfl
    rw [hone'] at h1
    have hys : ys[j]? = some (ys[j]'(by omega)) := List.getElem?_eq_getElem (by omega)
    rw [hys] at h1
    refine ⟨cs'[j]'(by omega), by rw [← Go.Deep.add_add, hcell, hv], ?_⟩
    cases k with
    | int =>
      obtain ⟨z, hz, _, _⟩ := DataW.trod_int hu h1
      exact ⟨z, by simpa using hz⟩
    | bool =>
      obtain ⟨z, hz, _⟩ := DataW.trod_bool hu h1
      exact ⟨z, by simpa using hz⟩
    | str =>
      obtain ⟨z, hz, _, hs⟩ := DataW.trod_string hu h1
      exact ⟨z, by simpa using hz, hs⟩
end
/-- what the frame tells: a slice of structs that came in -/
def IsStr (ks : List FK) (w : World) (a : Option Addr) (len cap : Nat) : Prop :=
  len ≤ cap ∧ len ≤ maxLen ∧ ((a = none ∧ len = 0 ∧ cap = 0) ∨ ∃ x : Addr, a = some x ∧ ∀ i, i < len → ∀ (j : Nat) (k : FK), ks[j]? = some k → ∃ v, w.cell? (x.add (i * ks.length + j)) = some v ∧ k.fits v)
/-- rows of structs, from their cells -/
theorem sa_structs {α : Type} (f : α → List Value) (c : Nat) (hf : ∀ x, (f x).length = c) (hc : 0 < c) (d : α) {w : World} {a : Addr} {len : Nat} (h : ∀ i, i < len → ∃ x : α, ∀ j, j < c → w.cell? (a.add (i * c + j)) = (f x)[j]?) :
    ∃ zs : List α, zs.length = len ∧ (0 < len → ∃ b off, a = ⟨b, off, none⟩) ∧ Sa w (some a) (zs.flatMap f) := by
  have ex : ∀ i, ∃ x : α, i < len → ∀ j, j < c → w.cell? (a.add (i * c + j)) = (f x)[j]? := fun i => by
    by_cases hi : i < len
    · obtain ⟨x, hx⟩ := h i hi
      exact ⟨x, fun _ => hx⟩
    · exact ⟨d, fun h => absurd h hi⟩
  obtain ⟨F, hF⟩ : ∃ F : Nat → α, ∀ i, i < len → ∀ j, j < c → w.cell? (a.add (i * c + j)) = (f (F i))[j]? := ⟨fun i => Classical.choose (ex i), fun i hi => Classical.choose_spec (ex i) hi⟩
  have hlen : ∀ n, ((List.range n).map F).flatMap f = (List.range n).flatMap fun i => f (F i) := fun n => by rw [List.flatMap_map]
  have hsp : 0 < len → ∃ b off, a = ⟨b, off, none⟩ := fun h0 => by
    have h1 := hF 0 h0 0 hc
    have h2 : (f (F 0))[0]? ≠ none := by rw [List.getElem?_eq_getElem (by rw [hf]; exact hc)]; simp
    obtain ⟨b, off, spot⟩ := a
    have hs : spot = none := by
      cases spot with
      | none => rfl
      | some s =>
        exfalso
        rw [Nat.zero_mul, Nat.add_zero] at h1
        unfold World.cell? at h1
        simp only [Addr.add, if_true] at h1
        split at h1
        · simp at h1; have := hf (F 0); rw [h1] at this; simp at this; omega
        · exact h2 h1.symm
    exact ⟨b, off, by rw [hs]⟩
  refine ⟨(List.range len).map F, by simp, hsp, fun h0 => ?_⟩
  have hl : (((List.range len).map F).flatMap f).length = len * c := by
    have : ∀ l : List α, (l.flatMap f).length = l.length * c := fun l => by
      induction l with
      | nil => simp
      | cons x r ih => rw [List.flatMap_cons, List.length_append, hf, ih, List.length_cons, Nat.add_mul]; omega
    rw [this]; simp
  rw [hl] at h0
  have hl0 : 0 < len := Nat.pos_of_mul_pos_right h0
  obtain ⟨b, off, rfl⟩ := hsp hl0
  have hget : ∀ (l : List α) (i j : Nat), i < l.length → j < c → (l.flatMap f)[i * c + j]? = (f (l.getD i d))[j]? := by
    intro l
    induction l with
    | nil => intro i j h; simp at h
    | cons x r ih =>
      intro i j h hj
      cases i with
      | zero => rw [List.flatMap_cons, Nat.zero_mul, Nat.zero_add, List.getElem?_append_left (by rw [hf]; exact hj)]; rfl
      | succ i =>
        rw [List.flatMap_cons, List.getElem?_append_right (by rw [hf, Nat.add_mul]; omega), hf, show (i + 1) * c + j - c = i * c + j by rw [Nat.add_mul]; omega, ih i j (by simpa using h) hj]
        simp
  refine ⟨b, off, rfl, ?_, fun k hk => ?_⟩
  · have h1 := hF 0 hl0 0 hc
    rw [List.getElem?_eq_getElem (by rw [hf]; exact hc)] at h1
    rw [Nat.zero_mul, Nat.add_zero] at h1
    unfold World.cell? at h1
    simp only [Addr.add, if_true] at h1
    split at h1
    · next hq => exact (Array.getElem?_eq_some_iff.1 hq).1
    · cases h1
  · rw [hl] at hk
    have hdm := Nat.div_add_mod k c
    have hki : k / c < len := Nat.div_lt_of_lt_mul (by rw [Nat.mul_comm]; exact hk)
    have hkj := Nat.mod_lt k hc
    have e : k = k / c * c + k % c := by rw [Nat.mul_comm]; omega
    have h1 := hF (k / c) hki (k % c) hkj
    rw [← e] at h1
    rw [show ((⟨b, off, none⟩ : Addr).add k) = ⟨b, off + k, none⟩ from by simp [Addr.add]] at h1
    rw [h1]
    conv => rhs; rw [e]
    rw [hget _ _ _ (by simpa using hki) hkj]
    congr 2
    simp [hki]
end Go.Proofs.Ytfompfaepabpgaa

/- Sketches in blocks of their own; bottom.Of and bottom.Join with them. -/
import Derived.Test.YtfompfaepabpgaaBotK
import Derived.Test.YtfompfaepabpgaaGoodL
namespace Go.Proofs.Ytfompfaepabpgaa
open Go.RowKit

/-- a sketch: its block, its names, where they lie -/
structure SmE where
  N : Nat
  l : List ByteArray
  ad : Option Addr
  cp : Nat
def SmIn (k : Nat) (w : World) (s : SmE) : Prop := s.N < w.heap.size ∧ w.cell? ⟨s.N, 0, none⟩ = some (.int .i64 k) ∧ w.cell? ⟨s.N, 1, none⟩ = some (.slice s.ad s.l.length s.cp) ∧ Sa w s.ad (strV s.l) ∧ (s.ad = none → s.l.length = 0 ∧ s.cp = 0)
def SmsIn (k : Nat) (w : World) (S : List SmE) : Prop := ∀ s ∈ S, SmIn k w s
theorem SmIn.keep {k : Nat} {w w' : World} {s : SmE} (h : SmIn k w s) (b : Below w.heap.size w w') : SmIn k w' s := by
  obtain ⟨h1, h2, h3, h4, h5⟩ := h
  exact ⟨Nat.lt_of_lt_of_le h1 b.size, (b.cell (p := ⟨s.N, 0, none⟩) h1).trans h2, (b.cell (p := ⟨s.N, 1, none⟩) h1).trans h3, h4.keep b, h5⟩
theorem SmsIn.keep {k : Nat} {w w' : World} {S : List SmE} (h : SmsIn k w S) (b : Below w.heap.size w w') : SmsIn k w' S := fun s hs => (h s hs).keep b
theorem SmsIn.nil (k : Nat) (w : World) : SmsIn k w [] := fun s hs => by cases hs
theorem SmsIn.get {k : Nat} {w : World} {S : List SmE} (h : SmsIn k w S) {N : Nat} {l : List ByteArray} {ad : Option Addr} {cp : Nat} (hs : ⟨N, l, ad, cp⟩ ∈ S) : N < w.heap.size ∧ w.cell? ⟨N, 0, none⟩ = some (.int .i64 k) ∧ w.cell? ⟨N, 1, none⟩ = some (.slice ad l.length cp) ∧ Sa w ad (strV l) ∧ (ad = none → l.length = 0 ∧ cp = 0) := h _ hs
/-- a sketch that came back is laid into a block -/
theorem SmsIn.new {k : Nat} {w w' : World} {S : List SmE} {R : List ByteArray} {ad : Option Addr} {n cp : Nat} (h : SmsIn k w S) (hf : Fr w w' [⟨9, .slice ad n cp, strV R⟩]) {N : Nat} (hN : w'.heap.size = N) (hn : R.length = n) :
    SmsIn k (w'.alloc (.cells #[.int .i64 k, .slice ad n cp] 48)) (⟨N, R, ad, cp⟩ :: S) := by
  have h1 := hf.new 48 #[.int .i64 k, .slice ad n cp] [.int .i64 k, .slice ad n cp] rfl 2 rfl (by omega)
  rw [hN] at h1
  intro s hs
  rcases List.mem_cons.1 hs with rfl | hs
  · obtain ⟨h2, h3, h4⟩ := smCells (h1.get 0 rfl)
    refine ⟨h2, h3, ?_, h1.get 1 rfl, ?_⟩
    · rw [h4, hn]
    · intro e
      rw [hn]
      exact hf.none e
  · exact (h s hs).keep h1.bel
/-- bottom.Of, whatever comes in -/
def OfBad (most : Int) (l : List ByteArray) : Prop := most < 1 ∨ 30 < most ∨ ∃ x ∈ l, 12 < x.size
def OfAny (most : Int) (l : List ByteArray) (w : World) (e : Ending) (w' : World) : Prop := ∃ (er kk : Int) (ad : Option Addr) (n cp : Nat), e = .returned (.tuple #[.agg #[.int .i64 kk, .slice ad n cp], .int .i64 er]) ∧ (er ≠ 0 → n = 0) ∧ (er ≠ 0 ↔ OfBad most l) ∧ n ≤ 30 ∧ Below w.heap.size w w'
theorem botOfAny (hsort : SortsNames) (most : Int) (l : List ByteArray) (n : Nat) (a : Option Addr) (cap : Nat) (w : World) (h : Sa w a (strV l)) (hn : l.length = n) (hnil : a = none → n = 0 ∧ cap = 0) (hl : n * 16 ≤ 140737488355328) :
    Calls Try.prog 23 #[.int .i64 most, .slice a n cap] w (OfAny most l w) := by
  by_cases hm : most < 1 ∨ 30 < most
  · refine (botOfNo most n a cap w hm).mono fun e w' ⟨er, ⟨e1, e2⟩, h1, h2⟩ => ⟨er, 0, none, 0, 0, h1, fun _ => rfl, ⟨fun _ => ?_, fun _ => by omega⟩, by omega, h2.bel⟩
    rcases hm with hm | hm
    · exact .inl hm
    · exact .inr (.inl hm)
  · obtain ⟨k, rfl, k1, k2⟩ : ∃ k : Nat, most = k ∧ 1 ≤ k ∧ k ≤ 30 := ⟨most.toNat, by omega, by omega, by omega⟩
    refine (botOf hsort k l n a cap w h hn hnil hl k1 k2).mono fun e w' hp => ?_
    rcases hp with ⟨hz, ad, cp, h1, h2⟩ | ⟨hx, er, ⟨e1, e2⟩, h1, h2⟩
    · refine ⟨0, k, ad, _, cp, h1, fun h => absurd rfl h, ⟨fun h => absurd rfl h, fun hb => ?_⟩, smOk_len (sk_ok k l k1 k2 hz), h2.bel⟩
      rcases hb with hb | hb | ⟨x, hx, hb⟩
      · omega
      · omega
      · have := hz x hx; omega
    · exact ⟨er, 0, none, 0, 0, h1, fun _ => rfl, ⟨fun _ => .inr (.inr hx), fun _ => by omega⟩, by omega, h2.bel⟩
/-- bottom.Of, where it takes what comes in -/
theorem botOfOk (hsort : SortsNames) (k : Nat) (l R : List ByteArray) (m n : Nat) (a : Option Addr) (cap : Nat) (w : World) (h : Sa w a (strV l)) (hn : l.length = n) (hnil : a = none → n = 0 ∧ cap = 0) (hl : n * 16 ≤ 140737488355328) (h1 : 1 ≤ k) (h2 : k ≤ 30) (hz : ∀ x ∈ l, x.size ≤ 12) (hR : skS k l = R) (hm : R.length = m) :
    Calls Try.prog 23 #[.int .i64 k, .slice a n cap] w fun e w' => ∃ ad cp, e = .returned (.tuple #[.agg #[.int .i64 k, .slice ad m cp], .int .i64 0]) ∧ Fr w w' [⟨9, .slice ad m cp, strV R⟩] := by
  subst hR hm
  refine (botOf hsort k l n a cap w h hn hnil hl h1 h2).mono fun e w' hp => ?_
  rcases hp with ⟨-, h⟩ | ⟨⟨x, hx, hb⟩, -⟩
  · exact h
  · have := hz x hx; omega
theorem botJoinOk (hsort : SortsNames) (k : Nat) (l l' R : List ByteArray) (q n m : Nat) (a b : Option Addr) (ca cb : Nat) (w : World) (h : Sa w a (strV l)) (h' : Sa w b (strV l')) (hn : l.length = n) (hm : l'.length = m)
    (na : a = none → n = 0 ∧ ca = 0) (nb : b = none → m = 0 ∧ cb = 0) (ho : SmOk k l) (ho' : SmOk k l') (hR : skS k (l ++ l') = R) (hq : R.length = q) :
    Calls Try.prog 27 #[.agg #[.int .i64 k, .slice a n ca], .agg #[.int .i64 k, .slice b m cb]] w fun e w' => ∃ ad cp, e = .returned (.tuple #[.agg #[.int .i64 k, .slice ad q cp], .int .i64 0]) ∧ Fr w w' [⟨9, .slice ad q cp, strV R⟩] := by
  subst hR hq
  exact (botJoin hsort k l l' n m a b ca cb w h h' hn hm na nb ho ho').mono fun e w' h => h
theorem rowCells3 {w : World} {N : Nat} {x y z : Value} (h : Sa w (some ⟨N, 0, none⟩) [x, y, z]) : N < w.heap.size ∧ w.cell? ⟨N, 0, none⟩ = some x ∧ w.cell? ⟨N, 1, none⟩ = some y ∧ w.cell? ⟨N, 2, none⟩ = some z := by
  obtain ⟨b, off, e, hb, h0⟩ := h.at 0 (by simp)
  obtain ⟨b', off', e', _, h1⟩ := h.at 1 (by simp)
  obtain ⟨b'', off'', e'', _, h2⟩ := h.at 2 (by simp)
  cases e
  cases e'
  cases e''
  exact ⟨hb, by simpa using h0, by simpa using h1, by simpa using h2⟩
end Go.Proofs.Ytfompfaepabpgaa

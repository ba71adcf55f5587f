/- Several of my texts in one: Dsk1, DskN. -/
import Derived.Test.YtbolgfiafbhicaaDoorDF40
import Derived.Test.YtbolgfiafbhicaaDoorDF15
import Derived.Test.YtbolgfiafbhicaaDoorDF33
/- Contracts of the desk: must, number. -/
namespace Go.Proofs.YtbolgfiafbhicaaDoor
open Go.RowKit

/-- a thrown error -/
def refL (er : Int) : List PanicEntry := [{ v := .iface 46 (.agg #[.int .i64 er]), recovered := false }]
theorem must0 (w : World) : Calls Tryd.prog 18 #[.int .i64 0] w fun e w' => e = .returned (.tuple #[]) ∧ w = w' := by
  go_enter Tryd.func18, Tryd.ntmps18
  go_wp2_with fail
  go_end0
  exact ⟨rfl, rfl⟩
theorem mustE (er : Int) (h : er ≠ 0) (w : World) : Calls Tryd.prog 18 #[.int .i64 er] w fun e w' => e = .panicked (refL er) ∧ w = w' := by
  have g : (er != 0) = true := by rw [bne_iff_ne]; exact h
  clear h
  go_enter Tryd.func18, Tryd.ntmps18
  go_wp2_with fail
  exact ⟨rfl, rfl, rfl⟩
/-- a number, or a thrown 10 -/
def NumSaid (R : Option Int) (w : World) (e : Ending) (w' : World) : Prop := Fr w w' [] ∧ ((∃ v, R = some v ∧ e = .returned (.int .i64 v)) ∨ (R = none ∧ e = .panicked (refL 10)))
theorem numV_step (l : List UInt8) (k : Nat) (acc : Int) (h : k < l.length) : numV (l.drop k) acc = if (l.getD k 0).toNat < 48 ∨ 57 < (l.getD k 0).toNat then none else numV (l.drop (k + 1)) (10 * acc + (((l.getD k 0).toNat : Int) - 48)) := by
  rw [List.drop_eq_getElem_cons h, numV]
  have : l.getD k 0 = l[k] := by rw [List.getD_eq_getElem?_getD, List.getElem?_eq_getElem h]; rfl
  rw [this]
set_option maxRecDepth 100000 in
set_option maxHeartbeats 8000000 in
theorem deskNum (s : ByteArray) (w : World) (hs : s.size ≤ maxLen) : Calls Tryd.prog 30 #[.string s] w (NumSaid (numB s) w) := by
  unfold maxLen at hs
  obtain ⟨R, hR⟩ : ∃ R, numB s = R := ⟨_, rfl⟩
  have HR := Lib.hid hR
  rw [hR]
  clear hR
  obtain ⟨n, hn⟩ : ∃ n, s.size = n := ⟨_, rfl⟩
  have HN := Lib.hid hn
  have HF0 := Lib.hid (Fr.start w)
  have HM := Lib.hid (mustE 10 (by decide))
  by_cases h1 : n < 1
  · have HO : Hid (R = none) := Lib.hid (by rw [← HR.out]; unfold numB; rw [if_pos (.inl (by rw [hn]; exact h1))])
    have d1 : decide ((n : Int) < 1) = true := decide_eq_true (by omega)
    clear HR
    go_enter Tryd.func30, Tryd.ntmps30
    go_wp2_with fail
    refine (HM.out _).mono ?_; rintro e w' ⟨rfl, rfl⟩
    go_wp2_with fail
    exact ⟨rfl, HF0.out, .inr ⟨HO.out, rfl⟩⟩
  have d1 : decide ((n : Int) < 1) = false := decide_eq_false (by omega)
  by_cases h6 : 6 < n
  · have HO : Hid (R = none) := Lib.hid (by rw [← HR.out]; unfold numB; rw [if_pos (.inr (by rw [hn]; exact h6))])
    have d2 : decide ((6 : Int) < (n : Int)) = true := decide_eq_true (by omega)
    clear HR
    go_enter Tryd.func30, Tryd.ntmps30
    go_wp2_with fail
    refine (HM.out _).mono ?_; rintro e w' ⟨rfl, rfl⟩
    go_wp2_with fail
    exact ⟨rfl, HF0.out, .inr ⟨HO.out, rfl⟩⟩
  have d2 : decide ((6 : Int) < (n : Int)) = false := decide_eq_false (by omega)
  have HV : Hid (numV (s.data.toList.drop 0) 0 = R) := Lib.hid (by rw [← HR.out]; unfold numB; rw [if_neg (by rw [hn]; omega)]; rfl)
  have HL : Hid (s.data.toList.length = n) := Lib.hid (by rw [Array.length_toList]; exact hn)
  clear HR
  obtain ⟨N, C, W, hcv, hfr, hcell⟩ := toBytes s w
  rw [hn] at hcv hcell
  have HF := Lib.hid hfr; have HC := Lib.hid hcell
  clear hfr hcell HF0
  go_enter Tryd.func30, Tryd.ntmps30
  go_wp2_with fail
  clear hcv d1 d2 hn
  go_loop [3, 18] (fun a i => ∃ (k : Nat) (acc : Int), k ≤ n ∧ i = .int .i64 k ∧ a = .int .i64 acc ∧ Hid (numV (s.data.toList.drop k) acc = R) ∧ 0 ≤ acc ∧ acc < (10 : Int) ^ k) (fun _ i => n - (intOf i).toNat)
  case atStart => exact ⟨0, 0, by omega, rfl, rfl, HV, by omega, by simp⟩
  case round =>
    clear HV
    obtain ⟨k, acc, hk, rfl, rfl, HK, a0, a1⟩ := hrel
    have hp : (10 : Int) ^ k ≤ 1000000 := by
      have : k ≤ 6 := by omega
      have h2 : (10 : Nat) ^ k ≤ 10 ^ 6 := Nat.pow_le_pow_right (by omega) this
      have h3 : ((10 ^ k : Nat) : Int) = (10 : Int) ^ k := by simp
      omega
    have a2 : acc < 1000000 := by omega
    have HA1 := Lib.hid a1
    clear a1 hp
    by_cases hlt : k < n
    · have c0 := HC.out k hlt
      have hst := numV_step s.data.toList k acc (by rw [HL.out]; exact hlt)
      have hby : s.data.toList.getD k 0 = byA s k := rfl
      rw [HK.out, hby] at hst
      have hb := (byA s k).toNat_lt
      obtain ⟨b, hbe⟩ : ∃ b, (byA s k).toNat = b := ⟨_, rfl⟩
      rw [hbe] at c0 hb hst
      clear hbe hby
      by_cases g1 : b < 48
      · rw [if_pos (.inl g1)] at hst
        have HO := Lib.hid hst
        have d3 : decide ((b : Int) < 48) = true := decide_eq_true (by omega)
        clear hst
        go_wp2_with fail
        refine (HM.out _).mono ?_; rintro e w' ⟨rfl, rfl⟩
        go_wp2_with fail
        exact ⟨rfl, HF.out, .inr ⟨HO.out, rfl⟩⟩
      have d3 : decide ((b : Int) < 48) = false := decide_eq_false (by omega)
      by_cases g2 : 57 < b
      · rw [if_pos (.inr g2)] at hst
        have HO := Lib.hid hst
        have d4 : decide ((57 : Int) < (b : Int)) = true := decide_eq_true (by omega)
        clear hst
        go_wp2_with fail
        refine (HM.out _).mono ?_; rintro e w' ⟨rfl, rfl⟩
        go_wp2_with fail
        exact ⟨rfl, HF.out, .inr ⟨HO.out, rfl⟩⟩
      have d4 : decide ((57 : Int) < (b : Int)) = false := decide_eq_false (by omega)
      rw [if_neg (by omega)] at hst
      have HST := Lib.hid hst.symm
      have HB1 : Hid (10 * acc + ((b : Int) - 48) < (10 : Int) ^ (k + 1)) := Lib.hid (by
        have := HA1.out
        rw [Int.pow_succ]
        omega)
      clear hst
      go_wp2_with fail
      exact ⟨⟨k + 1, 10 * acc + ((b : Int) - 48), by omega, by simp, by simp, HST, by omega, HB1.out⟩, by simp only [intOf]; omega⟩
    · obtain rfl : k = n := by omega
      have HO : Hid (R = some acc) := Lib.hid (by
        have := HK.out
        rw [List.drop_of_length_le (by rw [HL.out]; exact Nat.le_refl _)] at this
        exact this.symm)
      go_wp2_with fail
      go_ret
      exact ⟨HF.out, .inl ⟨acc, HO.out, rfl⟩⟩
end Go.Proofs.YtbolgfiafbhicaaDoor
/- The desk: how great the answers of deeds are (no program in sight). -/
namespace Go.Proofs.YtbolgfiafbhicaaDoor
open Go.RowKit

def RBd (k : Int) (R : DR) : Prop := ¬ (k = 1 ∨ k = 2 ∨ k = 3) → -1000000000000 ≤ R.n ∧ R.n ≤ 1000000000000 ∧ R.nm.size ≤ 12
theorem named_le {s : ByteArray} (h : namedB s = true) : s.size ≤ 12 := by
  unfold namedB at h
  simp only [Bool.and_eq_true, decide_eq_true_eq] at h
  exact h.2
theorem wonS_bd {s : HSt} {K : Nat} (ok : HOk s K) (hK : K ≤ 1000) (hnb : ∀ m ∈ s.M, namedB m.nm = true) (r : Int × Int) : -1000000000000 ≤ (wonS s r).n ∧ (wonS s r).n ≤ 1000000000000 ∧ (wonS s r).nm.size ≤ 12 := by
  unfold wonS
  split
  · split
    · rename_i m hm
      have hmm := List.mem_of_getElem? hm
      have h1 := ok.wn m hmm
      have h2 := named_le (hnb m hmm)
      exact ⟨by show _ ≤ m.wn + 1; omega, by show m.wn + 1 ≤ _; omega, h2⟩
    · exact ⟨by show _ ≤ (0 : Int); omega, by show (0 : Int) ≤ _; omega, Nat.zero_le _⟩
  · exact ⟨by show _ ≤ (0 : Int); omega, by show (0 : Int) ≤ _; omega, Nat.zero_le _⟩
theorem backN_t (nm : ByteArray) : ∀ (k : Nat) (s : BSt), BOk s → s.t ≤ (backN nm k s).t ∧ (backN nm k s).t ≤ s.t + 100 * k
  | 0, s, _ => ⟨Int.le_refl _, by show s.t ≤ _; omega⟩
  | k + 1, s, h => by
    obtain ⟨o1, -, -, o4, o5⟩ := backS_ok h nm k
    obtain ⟨r1, r2⟩ := backN_t nm k (backS nm k s) o1
    rw [backN]
    exact ⟨by omega, by omega⟩
theorem doS_bd {s : HSt} {K : Nat} (ok : HOk s K) (hK : K ≤ 1000) (hnb : ∀ m ∈ s.M, namedB m.nm = true) (k n : Int) (nm tn : ByteArray) : RBd k (doS s k n nm tn) := by
  intro hk
  have z : -1000000000000 ≤ (0 : Int) ∧ (0 : Int) ≤ 1000000000000 ∧ (⟨#[]⟩ : ByteArray).size ≤ 12 := ⟨by omega, by omega, Nat.zero_le _⟩
  unfold doS
  split
  · exact wonS_bd ok hK hnb _
  · split
    · exact wonS_bd ok hK hnb _
    · split
      · split
        · exact z
        · rename_i hn
          have hnn := named_le (by simpa using hn : namedB nm = true)
          split
          · exact absurd (.inl (by assumption)) hk
          · split
            · rename_i m hm
              have hmm := List.mem_of_getElem? hm
              unfold atSH
              rw [if_neg (fun h => hk (.inr (.inl h))), if_neg (fun h => hk (.inr (.inr h)))]
              split
              · have hb : BOk ⟨s.M, s.L, 0⟩ := ⟨ok.tk, ok.ln⟩
                obtain ⟨t1, t2⟩ := backN_t nm s.L.length ⟨s.M, s.L, 0⟩ hb
                have hl := ok.ll
                refine ⟨?_, ?_, hnn⟩
                · show _ ≤ (backN nm s.L.length ⟨s.M, s.L, 0⟩).t
                  simp only at t1; omega
                · show (backN nm s.L.length ⟨s.M, s.L, 0⟩).t ≤ _
                  simp only at t2; omega
              · have h1 := ok.wn m hmm
                exact ⟨by show _ ≤ m.wn; omega, by show m.wn ≤ _; omega, hnn⟩
            · exact z
      · exact z
theorem wd_le {l : List ByteArray} (hs : ∀ s ∈ l, s.size ≤ 1000000) (i : Nat) : (wd l i).size ≤ 1000000 := by
  unfold wd
  rw [List.getD_eq_getElem?_getD]
  cases h : l[i]? with
  | none => exact Nat.zero_le _
  | some x => exact hs x (List.mem_of_getElem? h)
theorem deedX_nm {k : Int} {l : List ByteArray} {n : Int} {nm tn : ByteArray} (hs : ∀ s ∈ l, s.size ≤ 1000000) (h : deedX k l = some (n, nm, tn)) : nm.size ≤ 1000000 := by
  unfold deedX at h
  split at h
  · obtain ⟨v, -, e⟩ := Option.map_eq_some_iff.1 h
    simp only [Prod.mk.injEq] at e
    rw [← e.2.1]; exact wd_le hs 1
  split at h
  · obtain ⟨v, -, e⟩ := Option.map_eq_some_iff.1 h
    simp only [Prod.mk.injEq] at e
    rw [← e.2.1]; exact wd_le hs 1
  split at h
  · obtain ⟨v, -, e⟩ := Option.map_eq_some_iff.1 h
    simp only [Prod.mk.injEq] at e
    rw [← e.2.1]; exact Nat.zero_le _
  split at h
  · simp only [Option.some.injEq, Prod.mk.injEq] at h
    rw [← h.2.1]; exact Nat.zero_le _
  · simp only [Option.some.injEq, Prod.mk.injEq] at h
    rw [← h.2.1]; exact wd_le hs 1
/-- the names stay those that were there, or have just come -/
theorem doS_nmsD {s : HSt} {K : Nat} (h : HOk s K) (k n : Int) (nm to x : ByteArray) (hx : x ∈ nmsM (doS s k n nm to).s.M) : x ∈ nmsM s.M ∨ (x = nm ∧ namedB nm = true) := by
  have won : ∀ r, x ∈ nmsM (wonS s r).s.M → x ∈ nmsM s.M := fun r hx => by
    unfold wonS at hx
    split at hx
    · cases hm : s.M[r.1.toNat]? with
      | none => rw [hm] at hx; exact hx
      | some m => rw [hm] at hx; simp only [setW] at hx; rw [nmsM_set _ _ _ _ hm (by rfl)] at hx; exact hx
    · exact hx
  revert hx
  unfold doS
  split
  · exact fun hx => .inl (won _ hx)
  · split
    · exact fun hx => .inl (won _ hx)
    · split
      · split
        · exact fun hx => .inl hx
        · rename_i hn
          split
          · intro hx
            simp only [joinW] at hx
            split at hx
            · unfold nmsM at hx
              rw [List.map_append] at hx
              rcases List.mem_append.1 hx with hx | hx
              · exact .inl hx
              · exact .inr ⟨by simpa using hx, by cases hb : namedB nm <;> simp_all⟩
            · exact .inl hx
          · cases hm : s.M[findM nm s.M]? with
            | none => exact fun hx => .inl hx
            | some m =>
              simp only [atSH]
              split
              · intro hx
                simp only [leaveW] at hx
                split at hx
                · exact .inl hx
                · exact .inl (((List.eraseIdx_sublist s.M (findM nm s.M)).map (fun m : Mem => m.nm)).mem hx)
              · split
                · intro hx
                  simp only [lendW] at hx
                  split at hx
                  · simp only at hx; rw [nmsM_bumpM, nmsM_bumpM] at hx; exact .inl hx
                  · exact .inl hx
                · split
                  · intro hx; simp only at hx; rw [(backA_ok h nm).nms] at hx; exact .inl hx
                  · exact fun hx => .inl hx
      · exact fun hx => .inl hx
/-- a desk's hall: what a hall keeps, and the names are names -/
structure DOk (s : HSt) (K : Nat) : Prop where
  ok : HOk s K
  nm : ∀ m ∈ s.M, namedB m.nm = true
theorem DOk.le {s : HSt} {K K' : Nat} (h : DOk s K) (hk : K ≤ K') : DOk s K' := ⟨h.ok.le hk, h.nm⟩
theorem hok0D (K : Nat) : HOk ⟨[], []⟩ K := by
  refine ⟨⟨?_, fun k hk => ?_⟩, fun m hm => ?_, fun l hl => ?_, Nat.zero_le _, List.nodup_nil⟩
  · exact Nat.zero_le _
  · exact absurd hk (Nat.not_lt_zero k)
  · cases hm
  · cases hl
theorem dok0 (K : Nat) : DOk ⟨[], []⟩ K := ⟨hok0D K, fun m hm => by cases hm⟩
theorem doS_dok {s : HSt} {K : Nat} (h : DOk s K) (k n : Int) (nm tn : ByteArray) : DOk (doS s k n nm tn).s (K + 1) := by
  refine ⟨doS_ok h.ok k n nm tn, fun m hm => ?_⟩
  have hx : m.nm ∈ nmsM (doS s k n nm tn).s.M := by unfold nmsM; exact List.mem_map_of_mem hm
  rcases doS_nmsD h.ok k n nm tn m.nm hx with h1 | ⟨h1, h2⟩
  · unfold nmsM at h1
    obtain ⟨m', h3, e⟩ := List.mem_map.1 h1
    rw [← e]; exact h.nm m' h3
  · rw [h1]; exact h2
theorem deedR_dok {s : HSt} {K : Nat} (h : DOk s K) (k : Int) (l : List ByteArray) : DOk (deedR s k l).1 (K + 1) := by
  unfold deedR
  split
  · exact h.le (by omega)
  · exact doS_dok h _ _ _ _
theorem ansO_dok {s : HSt} {K : Nat} (h : DOk s K) (l : List ByteArray) : DOk (ansO s l).1 (K + 1) := by
  cases l with
  | nil => exact h.le (by omega)
  | cons w l =>
    rw [ansO]
    by_cases h1 : l = [] ∧ w = wNames
    · rw [if_pos h1]; exact h.le (by omega)
    rw [if_neg h1]
    by_cases h2 : kindB w = 0
    · rw [if_pos h2]; exact h.le (by omega)
    rw [if_neg h2]
    by_cases h3 : ((l.length + 1 : Nat) : Int) ≠ wantB w
    · rw [if_pos h3]; exact h.le (by omega)
    · rw [if_neg h3]; exact deedR_dok h _ _
theorem ansR_dok {s : HSt} {K : Nat} (h : DOk s K) (x : ByteArray) : DOk (ansR s x).1 (K + 1) := ansO_dok h _
end Go.Proofs.YtbolgfiafbhicaaDoor

/- Several of my texts in one: GlaO. -/
import Derived.Test.YtooghdnlaonkaaaPw38
import Derived.Test.YtooghdnlaonkaaaPw02
import Derived.RegionTactic
import Derived.ChangeAlike
import Derived.Deep.CutRange
/- Contract of parts.Odd over a right sum. -/
namespace Go.Proofs.Ytooghdnlaonkaaa
open Go.RowKit

/-- slices.SortFunc with 'b - a' sorts a call's own slice of small numbers, the greatest first -/
def SortsDown (g : Nat) : Prop := ∀ (w0 : World) (L : List Ent) (l : List Int) (n cap : Nat) (ad : Option Addr) (w : World), Fr w0 w (⟨3, .slice ad n cap, ints l⟩ :: L) → n ≤ 100000 → (∀ x ∈ l, 0 ≤ x ∧ x < 100000) →
  Calls Try.prog 98 #[.slice ad n cap, .func (.func g) #[] #[]] w fun e w' => e = .returned (.tuple #[]) ∧ Fr w0 w' (⟨3, .slice ad n cap, ints (desc l)⟩ :: L)

def vT (x : Nat) : Nat := if x % 2 = 1 then 0 else if x / 2 % 2 = 1 then 1 else if x / 4 % 2 = 1 then 2 else if x / 8 % 2 = 1 then 3 else if x / 16 % 2 = 1 then 4 else 5
def pw (t : Nat) : Nat := 2 ^ t
def dv (x t : Nat) : Nat := x / 2 ^ t
theorem vT_end : ∀ x, x < 41 → 0 < x → vT x < 6 ∧ dv x (vT x) % 2 = 1 ∧ spl 6 x 1 = (dv x (vT x), pw (vT x)) := by decide +kernel
theorem vT_mid : ∀ x, x < 41 → 0 < x → ∀ t, t < vT x → dv x t % 2 = 0 ∧ 2 ≤ dv x t := by decide +kernel
theorem pw_bd : ∀ t, t < 6 → 1 ≤ pw t ∧ pw t ≤ 32 := by decide
theorem pw_succ (t : Nat) : pw (t + 1) = 2 * pw t := by unfold pw; rw [Nat.pow_succ]; omega
theorem dv_succ (x t : Nat) : dv x (t + 1) = dv x t / 2 := by unfold dv; rw [Nat.pow_succ, Nat.div_div_eq_div_mul]
theorem dv_le (x t : Nat) : dv x t ≤ x := Nat.div_le_self _ _
theorem oddRaw_snoc (l : List Int) (x : Int) : oddRaw (l ++ [x]) = oddRaw l ++ expI x := by simp [oddRaw]
theorem oddRaw_len : ∀ (l : List Int), (∀ y ∈ l, 1 ≤ y ∧ y ≤ 40) → (oddRaw l).length ≤ 32 * l.length
  | [], _ => by simp [oddRaw]
  | y :: l, h => by
    have ih := oddRaw_len l (fun z hz => h z (List.mem_cons_of_mem _ hz))
    have hy := h y List.mem_cons_self
    have he : (expI y).length ≤ 32 := by
      unfold expI
      rw [List.length_replicate]
      obtain ⟨a, b, c⟩ := vT_end y.toNat (by omega) (by omega)
      rw [c]
      exact (pw_bd _ a).2
    unfold oddRaw at ih ⊢
    rw [List.flatMap_cons, List.length_append, List.length_cons]; omega
def OddPost (l : List Int) (m n : Nat) (w : World) (e : Ending) (w' : World) : Prop :=
  (m = n ∧ OneSlI (desc (oddRaw l)) 0 w e w') ∨ (m < n ∧ e = .returned (.tuple #[.slice none 0 0, .int .i64 3]) ∧ Fr w w' [])
theorem part_pos' {l : List Int} (h : PartOk l) : ∀ x ∈ l, 1 ≤ x ∧ x ≤ 40 := fun x hx => by
  obtain ⟨k, hk, rfl⟩ := List.getElem_of_mem hx
  have := h k hk
  have e2 : nth l k = l[k] := by simp [nth, hk]
  rw [e2] at this; omega
set_option maxRecDepth 100000 in
set_option maxHeartbeats 4000000 in
theorem partOdd (hsort : SortsDown 111) (l : List Int) (n m : Nat) (a : Option Addr) (cap : Nat) (w : World) (h : Sa w a (ints l)) (hn : l.length = n) (hp : PartOk l) (hmn : m ≤ n)
    (hm : ∀ i, 0 < i → i < m → nth l i ≠ nth l (i - 1)) (he : m < n → 0 < m ∧ nth l m = nth l (m - 1)) :
    Calls Try.prog 62 #[.slice a n cap] w (OddPost l m n w) := by
  have hl := hp.len
  rw [hn] at hl
  have HN := Lib.hid hn; have HS := Lib.hid h; have HP := Lib.hid hp; have HM := Lib.hid hm; have HE := Lib.hid he; have HSort := Lib.hid hsort
  clear hn h hp hm he hsort
  go_enter Try.func62, Try.ntmps62
  go_wp2_with fail
  refine (partChk l n _ _ _ HS.out HN.out HP.out).mono ?_; rintro e w' ⟨rfl, rfl⟩
  go_wp2_with fail
  go_loopw [5, 16] (fun o i wr => ∃ (k c : Nat) (ad : Option Addr) (cp : Nat), k ≤ m ∧ i = .int .i64 k ∧ o = .slice ad c cp ∧ Hid ((oddRaw (l.take k)).length = c) ∧ Fr w wr [⟨3, .slice ad c cp, ints (oddRaw (l.take k))⟩]) (fun _ i _ => n - (intOf i).toNat)
  case atStart => exact ⟨0, 0, none, 0, by omega, rfl, rfl, Lib.hid rfl, (Fr.start w).nilSlice _⟩
  case round =>
    obtain ⟨k, c, ad, cp, hk, rfl, rfl, HC, hfr⟩ := hrel
    have hc1280 : c ≤ 1280 := by
      have := oddRaw_len (l.take k) (fun y hy => part_pos' HP.out y (List.mem_of_mem_take hy))
      rw [HC.out, List.length_take, HN.out] at this
      omega
    by_cases hlt : k < n
    · obtain ⟨b, off, rfl, hb, hc⟩ := (hfr.old HS.out).int k (by rw [HN.out]; exact hlt)
      have hx := part_pos' HP.out _ (nth_mem l k (by rw [HN.out]; exact hlt))
      obtain ⟨x, hxe⟩ : ∃ x : Nat, nth l k = x := ⟨(nth l k).toNat, by omega⟩
      have hprev : 0 < k → ∃ y : Nat, wr.cell? ⟨b, off + (k - 1), none⟩ = some (.int .i64 (y : Int)) ∧ nth l (k - 1) = y := by
        intro h0
        obtain ⟨b', off', e, _, hc'⟩ := (hfr.old HS.out).int (k - 1) (by rw [HN.out]; omega)
        cases e
        have := part_pos' HP.out _ (nth_mem l (k - 1) (by rw [HN.out]; omega))
        exact ⟨(nth l (k - 1)).toNat, by rw [hc']; congr 2; omega, by omega⟩
      obtain ⟨C, hC⟩ : ∃ C : Bool, C = decide (k = m) := ⟨_, rfl⟩
      have hCv : (C = true → 0 < k ∧ nth l k = nth l (k - 1)) ∧ (C = false → 0 < k → nth l k ≠ nth l (k - 1)) := by
        constructor
        · intro h1
          rw [h1] at hC
          have := of_decide_eq_true hC.symm
          subst this
          exact HE.out hlt
        · intro h1
          rw [h1] at hC
          have := of_decide_eq_false hC.symm
          exact fun h0 => HM.out k h0 (by omega)
      rw [hxe] at hc hx hCv
      have HC' := Lib.hid hC; have HX := Lib.hid hxe; have HR := Lib.hid hfr
      have HCV := Lib.hid hCv
      clear hC hCv hfr hxe
      go_upto_region 8 with (fail)
      go_cut [31] from 21 to 47 (fun s wc => s = .bool C ∧ wc = wr)
      case first =>
        rcases Nat.eq_zero_or_pos k with h0 | h0
        · subst h0
          have hCf : C = false := by
            cases C
            · rfl
            · have := (HCV.out.1 rfl).1; omega
          subst hCf
          clear hprev
          go_wp2_with fail
          go_meet
          exact ⟨rfl, rfl⟩
        · obtain ⟨y, hc', hy⟩ := hprev h0
          have hcmp : ((x : Int) == (y : Int)) = C := by
            cases C
            · have := HCV.out.2 rfl h0
              rw [hy] at this
              simpa using this
            · have := (HCV.out.1 rfl).2
              rw [hy] at this
              simpa using this
          clear hprev hy
          go_wp2_with fail
          go_meet
          exact ⟨rfl, rfl⟩
      case rest =>
      obtain ⟨rfl, rfl⟩ := hcut
      clear hprev
      cases C
      · have hkm : k < m := by have := of_decide_eq_false HC'.out.symm; omega
        have hs := Lib.hid (show oddRaw (l.take (k + 1)) = oddRaw (l.take k) ++ expI (nth l k) from by rw [take_nth l k (by rw [HN.out]; exact hlt), oddRaw_snoc])
        rw [HX.out] at hs
        obtain ⟨t1, t2, t3⟩ := vT_end x (by omega) (by omega)
        have tm := vT_mid x (by omega) (by omega)
        have HT := Lib.hid (show expI (x : Int) = List.replicate (pw (vT x)) ((dv x (vT x) : Nat) : Int) from by unfold expI; rw [show ((x : Nat) : Int).toNat = x from by omega, t3])
        have HEND := Lib.hid t2; have HMID := Lib.hid tm
        clear t3 t2 tm
        obtain ⟨v, hv⟩ : ∃ v, vT x = v := ⟨_, rfl⟩
        rw [hv] at t1 HT HEND HMID
        have HV := Lib.hid hv
        clear hv
        obtain ⟨O, hO⟩ : ∃ O, oddRaw (l.take k) = O := ⟨_, rfl⟩
        rw [hO] at HC hs HR
        have HOO := Lib.hid hO
        clear hO
        go_wp2_with fail
        go_loop [7, 8] (fun p q => ∃ t : Nat, t ≤ v ∧ p = .int .i64 (dv x t : Nat) ∧ q = .int .i64 (pw t : Nat)) (fun p _ => (intOf p).toNat)
        case atStart => exact ⟨0, by omega, by simp [dv], rfl⟩
        case round =>
          obtain ⟨t, ht, rfl, rfl⟩ := hrel
          have p1 := pw_bd t (by omega)
          have d1 := dv_le x t
          have ps := Lib.hid (pw_succ t); have ds := Lib.hid (dv_succ x t)
          by_cases htv : t < v
          · obtain ⟨ev, ev2⟩ := HMID.out t htv
            obtain ⟨X, hX⟩ : ∃ X, dv x t = X := ⟨_, rfl⟩
            obtain ⟨N, hN⟩ : ∃ N, pw t = N := ⟨_, rfl⟩
            rw [hX] at d1 ev ev2 ds ⊢
            rw [hN] at p1 ps ⊢
            clear hX hN
            obtain ⟨Y, hY⟩ : ∃ Y, X / 2 = Y := ⟨_, rfl⟩
            have e0 : X % 2 = 0 := ev
            have e1 : (X : Int) % 2 = 0 := by omega
            have e2 : (X : Int) / 2 = (Y : Int) := by omega
            rw [hY] at ds
            clear ev e0 hY
            go_wp2_with fail
            go_round
            case rel => exact ⟨t + 1, by omega, by rw [ds.out], by rw [ps.out]; go_num⟩
            case measure => simp only [intOf]; omega
          · obtain rfl : t = v := by omega
            have ev := HEND.out
            clear HMID HEND ps ds htv
            obtain ⟨X, hX⟩ : ∃ X, dv x t = X := ⟨_, rfl⟩
            obtain ⟨N, hN⟩ : ∃ N, pw t = N := ⟨_, rfl⟩
            rw [hX] at d1 ev HT ⊢
            rw [hN] at p1 HT ⊢
            clear hX hN
            rw [HT.out] at hs
            have e1 : (X : Int) % 2 = 1 := by omega
            clear ev HT
            have hfr0 := HR.out
            go_wp2_with fail
            go_loopw [5, 40] (fun o i wq => ∃ (j : Nat) (ad2 : Option Addr) (cp2 : Nat), j ≤ N ∧ i = .int .i64 j ∧ o = .slice ad2 (c + j) cp2 ∧ Fr w wq [⟨3, .slice ad2 (c + j) cp2, ints (O ++ List.replicate j (X : Int))⟩]) (fun _ i _ => N - (intOf i).toNat)
            case atStart => exact ⟨0, ad, cp, by omega, rfl, rfl, by simpa using hfr0⟩
            case round =>
              obtain ⟨j, ad2, cp2, hj, rfl, rfl, hfq⟩ := hrel
              clear hfr0
              by_cases hjN : j < N
              · have HFQ := Lib.hid hfq
                clear hfq
                go_wp2_with (with_reducible refine at_slot 45 ?_; go_must (refine wpList_pushInt rfl _ _ rfl ad2 (c + j) cp2 _ (X : Int) _ rfl HFQ.out rfl ?_ ?_); rotate_left; intro ad3 cp3 w3 hf3 hlt3)
                · rw [List.append_assoc, show List.replicate j (X : Int) ++ [(X : Int)] = List.replicate (j + 1) (X : Int) from by rw [List.replicate_succ']] at hf3
                  go_roundw
                  case rel => exact ⟨j + 1, ad3, cp3, by omega, by go_num, rfl, hf3⟩
                  case measure => simp only [intOf]; omega
                · omega
              · obtain rfl : j = N := by omega
                go_wp2_with fail
                exact ⟨⟨k + 1, c + j, ad2, cp2, by omega, by simp, rfl, Lib.hid (by rw [hs.out, List.length_append, HC.out, List.length_replicate]), by rw [hs.out]; exact hfq⟩, by simp only [intOf]; omega⟩
      · have hkm := of_decide_eq_true HC'.out.symm
        subst hkm
        go_wp2_with fail
        go_ret2
        exact .inr ⟨hlt, rfl, HR.out.below⟩
    · have hkm : k = m ∧ k = n := by omega
      obtain ⟨rfl, rfl⟩ := hkm
      rw [List.take_of_length_le (by rw [HN.out]; omega)] at hfr HC
      have hcall := HSort.out w [] (oddRaw l) c cp ad wr hfr (by omega) (fun x hx => by have := oddRaw_odd (part_pos' HP.out) x hx; omega)
      go_wp2_with (go_at_call 98; refine hcall.mono ?_; rintro e w2 ⟨rfl, F2⟩)
      go_ret2
      have hc2 := HC.out
      subst hc2
      have e1 : (desc (oddRaw l)).length = (oddRaw l).length := desc_len _
      exact .inl ⟨rfl, ad, cp, by rw [e1]; rfl, by rw [e1]; exact F2.cap, by rw [e1]; exact F2⟩
end Go.Proofs.Ytooghdnlaonkaaa

/- The walk of TurnsOwn. -/
import Derived.Test.YtfompfaepabpgaaOwnC
import Derived.Test.YtfompfaepabpgaaSpo
import Derived.Test.YtfompfaepabpgaaDeedF
namespace Go.Proofs.Ytfompfaepabpgaa
open Go.RowKit

def plE (l : List Rn) (T : List Tu) (u : Int) : Int := if chkW l T ≠ 0 then chkW l T else if u < 0 ∨ 200 < u then 1 else 0
def PlU (er : Int) (w : World) (e : Ending) (w' : World) : Prop := ∃ (R C : List Int) (nr nc : Nat) (ar : Option Addr) (cr : Nat) (ac : Option Addr) (cc : Nat), e = .returned (.tuple #[.slice ar nr cr, .slice ac nc cc, .int .i64 er]) ∧ R.length = nr ∧ C.length = nc ∧ nr ≤ 1000 ∧ nc ≤ 1000 ∧
  Fr w w' [⟨3, .slice ar nr cr, ints R⟩, ⟨3, .slice ac nc cc, ints C⟩] ∧ -7 ∉ R ∧ -7 ∉ C
theorem playNil {w w' : World} (er : Int) (e : Ending) (he : e = .returned (.tuple #[.slice none 0 0, .slice none 0 0, .int .i64 er])) (hb : Below w.heap.size w w') : PlU er w e w' :=
  ⟨[], [], 0, 0, none, 0, none, 0, he, rfl, rfl, by omega, by omega, (((Fr.start w).keep hb).nilSlice 3).nilSlice 3, by simp, by simp⟩
theorem playU (l : List Rn) (T : List Tu) (n m : Nat) (u : Int) (a b : Option Addr) (ca cb : Nat) (w : World) (h : Sa w a (ths l)) (h' : Sa w b (tus T)) (hn : l.length = n) (hm : T.length = m) (hcb : m ≤ cb) :
    Calls Try.prog 38 #[.slice a n ca, .slice b m cb, .int .i64 u] w (PlU (plE l T u) w) := by
  by_cases he : chkW l T = 0
  · by_cases hu : u < 0 ∨ 200 < u
    · have e1 : plE l T u = 1 := by unfold plE; rw [if_neg (by simp [he]), if_pos hu]
      rw [e1]
      exact (warPlay_arg l T n m u a b ca cb w h h' hn hm he hu).mono fun e w' ⟨h1, h2⟩ => playNil 1 e h1 h2
    · have e1 : plE l T u = 0 := by unfold plE; rw [if_neg (by simp [he]), if_neg hu]
      rw [e1]
      obtain ⟨k, rfl⟩ : ∃ k : Nat, u = k := ⟨u.toNat, by omega⟩
      have ok := chkW_ok he
      have h8 := ok.n8
      refine (warPlay_yes l T n m k a b ca cb w h h' hn hm hcb he (by omega)).mono ?_
      rintro e w' ⟨ad, cp, ad', cp', rfl, h1, h2, hf⟩
      have hst := (ok.st k).1
      refine ⟨ranW l T k, endW (stL l T k), k, n, ad, cp, ad', cp', rfl, ranW_len _ _ _, by simp [endW, stL_len, hn], by omega, by omega, hf.swap, fun hx => ?_, fun hx => ?_⟩
      · obtain ⟨t, _, ht⟩ := List.mem_map.1 hx
        have := besW_lt (evL l T t) l.length
        omega
      · obtain ⟨r, hr, hp⟩ := List.mem_map.1 hx
        obtain ⟨i, hi, e⟩ := List.getElem_of_mem hr
        have := (hst.ok i (by rw [← hst.len]; exact hi)).2.2.2.2.1
        have e2 : rnA (stL l T k) i = r := by unfold rnA; simp [hi, e]
        rw [e2, hp] at this
        omega
  · have e1 : plE l T u = chkW l T := by unfold plE; rw [if_pos he]
    rw [e1]
    exact (warPlay_no l T n m u a b ca cb w h h' hn hm (chkW l T) rfl he).mono fun e w' ⟨h1, h2⟩ => playNil _ e h1 h2
set_option maxRecDepth 100000 in
set_option maxHeartbeats 16000000 in
theorem turns_row (a : Option Addr) (n cap : Nat) (b : Option Addr) (m cb : Nat) (u : Int) (d : Option Addr) (k kc : Nat) (w : World) (h1 : IsStr [.int, .int, .bool, .bool] w a n cap) (h2 : IsStr [.int, .int, .int] w b m cb) (h3 : IsStr [.int, .int, .str, .str] w d k kc)
    (s1 : n * 24 ≤ 140737488351232) (s2 : m * 24 ≤ 140737488351232) (s3 : k * 48 ≤ 140737488351232) :
    Calls Try.prog 11 #[.slice a n cap, .slice b m cb, .int .i64 u, .slice d k kc] w fun e w' => e = .returned (.bool true) ∧ Below w.heap.size w w' := by
  have n1 : a = none → n = 0 ∧ cap = 0 := fun e => by rcases h1.2.2 with ⟨_, h, h'⟩ | ⟨x, hx, _⟩; exact ⟨h, h'⟩; rw [e] at hx; cases hx
  have n2 : b = none → m = 0 ∧ cb = 0 := fun e => by rcases h2.2.2 with ⟨_, h, h'⟩ | ⟨x, hx, _⟩; exact ⟨h, h'⟩; rw [e] at hx; cases hx
  obtain ⟨l, hl, -, hlm, hA⟩ := h1.ths
  obtain ⟨T, hT, hcb, hTm, hB⟩ := h2.tus
  obtain ⟨D, hD⟩ := h3.deeds
  have HA := Lib.hid hA; have HB := Lib.hid hB; have HD := Lib.hid hD
  have HL := Lib.hid hl; have HT := Lib.hid hT; have N1 := Lib.hid n1; have N2 := Lib.hid n2
  have HLM := Lib.hid hlm; have HTM := Lib.hid hTm; have HCB := Lib.hid hcb
  clear h1 h2 h3 hl hT hlm hTm hA hB hD n1 n2 hcb
  go_enter Try.func11, Try.ntmps11
  go_wp2_with fail
  refine (warps_any w).mono ?_; rintro e w1 ⟨rfl, hb1⟩
  have HB1 := Lib.hid hb1
  clear hb1
  go_wp2_with fail
  refine (hallsOk w1).mono ?_; rintro e w2 ⟨rfl, hb2⟩
  have HB2 := Lib.hid (kin_trans HB1.out hb2)
  clear hb2 HB1
  go_wp2_with fail
  refine (clnTh l n a cap w2 (HA.out.keep HB2.out) HL.out N1.out (by omega)).mono ?_; rintro e w3 ⟨a3, c3, rfl, h3, b3⟩
  have H3 := Lib.hid h3
  have HB3 := Lib.hid (kin_trans HB2.out b3)
  clear h3 b3 HB2
  go_wp2_with fail
  refine (clnTu T m b cb w3 (HB.out.keep HB3.out) HT.out N2.out (by omega)).mono ?_; rintro e w4 ⟨a4, c4, rfl, h4, b4⟩
  have H3' := Lib.hid (H3.out.keep b4)
  have H4 := Lib.hid h4
  have HB4 := Lib.hid (kin_trans HB3.out b4)
  clear h4 b4 HB3 H3
  go_wp2_with fail
  refine (playU l T n m u a b cap cb w4 (HA.out.keep HB4.out) (HB.out.keep HB4.out) HL.out HT.out HCB.out).mono ?_; rintro e w5 ⟨R, C, nr, nc, ar, cr, ac, cc, rfl, hR, hC, r1, r2, hf5, hr7, hc7⟩
  have HP := Lib.hid (fun w8 (h : Below w4.heap.size w4 w8) => playU l T n m u a b cap cb w8 (HA.out.keep (kin_trans HB4.out h)) (HB.out.keep (kin_trans HB4.out h)) HL.out HT.out HCB.out)
  obtain ⟨er, her⟩ : ∃ er, plE l T u = er := ⟨_, rfl⟩
  rw [her] at HP ⊢
  have HC := Lib.hid hC; have HC7 := Lib.hid hc7
  have HS5 := Lib.hid (spoilI 3 ar nr cr (ints R) (-7) hf5)
  clear her hC hc7 hr7 hR hf5
  go_wp2_with fail
  refine HS5.out.mono ?_; rintro e w6 ⟨⟨u6, rfl⟩, hf6⟩
  have HF6 := Lib.hid hf6
  have HC6 := Lib.hid (slCoI C nc ac cc (-7) w6 (hf6.get 0 rfl) HC.out (by unfold maxLen; omega))
  clear hf6 HS5
  go_wp2_with fail
  refine HC6.out.mono ?_; rintro e w7 ⟨bb, rfl, hbb, hf7⟩
  have hbf : bb = false := by cases bb; rfl; exact absurd (hbb.1 rfl) HC7.out
  subst hbf
  have HF7 := Lib.hid (HF6.out.keep hf7.bel)
  have HS7 := Lib.hid (spoilI 3 ac nc cc (ints C) (-7) HF7.out)
  clear hf7 hbb HC6 HF6
  go_wp2_with fail
  refine HS7.out.mono ?_; rintro e w8 ⟨⟨u8, rfl⟩, hf8⟩
  have HF8 := Lib.hid hf8
  have HP8 := Lib.hid (HP.out w8 hf8.bel)
  clear hf8 HP HS7 HF7
  go_wp2_with fail
  refine HP8.out.mono ?_; rintro e w9 ⟨R', C', nr', nc', ar', cr', ac', cc', rfl, hR', hC', r3, r4, hf9, hr7', hc7'⟩
  have HR9 := Lib.hid hR'; have HC9 := Lib.hid hC'; have HR79 := Lib.hid hr7'; have HC79 := Lib.hid hc7'
  have HSR := Lib.hid (hf9.get 0 rfl)
  have HSC := Lib.hid (hf9.get 1 rfl)
  have HB49 := Lib.hid (kin_trans HF8.out.bel hf9.bel)
  have HW := Lib.hid (workedOk D k d kc w9 (HD.out.below (kin_trans HB4.out HB49.out)) (by omega))
  clear hR' hC' hr7' hc7' hf9 HP8 HF8
  go_wp2_with fail
  refine HW.out.mono ?_; rintro e w10 ⟨H, rfl, hw10⟩
  have hok := runD_ok D ⟨[], []⟩ 0 (hok0 0)
  rw [HD.out.len, Nat.zero_add] at hok
  generalize runD D ⟨[], []⟩ = s at *
  have h8 := hok.l8
  have HW10 := Lib.hid hw10
  have HN := Lib.hid (halNmW hw10 h8)
  clear hw10 hok HW
  go_wp2_with fail
  refine HN.out.mono ?_; rintro e w11 ⟨ad, cp, rfl, hcp, hf11, hw11⟩
  have HF11 := Lib.hid hf11
  have hlen : (nmsM s.M).length = s.M.length := by unfold nmsM; rw [List.length_map]
  have HLEN := Lib.hid hlen
  have hnil : ad = none → s.M.length = 0 ∧ cp = 0 := fun e => by
    obtain ⟨e1, ⟨_, e2, e3⟩ | ⟨g, cur, e2, _⟩⟩ := (hf11.os.own _ List.mem_cons_self).elim
    · have : (strV (nmsM s.M)).length = 0 := by rw [e3]; rfl
      rw [strV_len, hlen] at this
      exact ⟨this, e2⟩
    · rw [e] at e2; cases e2
  have HCL := Lib.hid (clnSt (nmsM s.M) s.M.length ad cp w11 (hf11.get 0 rfl) hlen hnil (by omega))
  clear hf11 hw11 HN hlen hnil
  go_wp2_with fail
  refine HCL.out.mono ?_; rintro e w12 ⟨ak, ck, rfl, hf12⟩
  have HF12 := Lib.hid ((HF11.out.call hf12).swap)
  have HS12 := Lib.hid (spoilS 9 ad s.M.length cp (strV (nmsM s.M)) ⟨#[63]⟩ HF12.out)
  clear hf12 HCL HF11
  go_wp2_with fail
  refine HS12.out.mono ?_; rintro e w13 ⟨⟨u13, rfl⟩, hf13⟩
  have HF13 := Lib.hid hf13
  have HKS := Lib.hid (hf13.get 0 rfl)
  have HB913 := Lib.hid (kin_trans HW10.out.below hf13.bel)
  have HB413 := Lib.hid (kin_trans HB49.out HB913.out)
  have HE1 := Lib.hid (slEqTh l n a a3 cap c3 w13 (HA.out.keep (kin_trans HB4.out HB413.out)) (H3'.out.keep HB413.out) HL.out HLM.out)
  clear hf13 HS12 HF12
  go_wp2_with fail
  refine HE1.out.mono ?_; rintro e w14 ⟨rfl, hf14⟩
  have HB1314 := Lib.hid hf14.bel
  have HE2 := Lib.hid (slEqTu T m b a4 cb c4 w14 (HB.out.keep (kin_trans (kin_trans HB4.out HB413.out) hf14.bel)) (H4.out.keep (kin_trans HB413.out hf14.bel)) HT.out HTM.out)
  clear hf14 HE1
  go_wp2_with fail
  refine HE2.out.mono ?_; rintro e w15 ⟨rfl, hf15⟩
  have HB1315 := Lib.hid (kin_trans HB1314.out hf15.bel)
  have g5 : (er == er) = true := beq_self_eq_true _
  have HC15 := Lib.hid (slCoI R' nr' ar' cr' (-7) w15 (HSR.out.keep (kin_trans HB913.out HB1315.out)) HR9.out (by unfold maxLen; omega))
  clear hf15 HE2 HB1314
  go_wp2_with fail
  refine HC15.out.mono ?_; rintro e w16 ⟨bb, rfl, hbb, hf16⟩
  have hbf : bb = false := by cases bb; rfl; exact absurd (hbb.1 rfl) HR79.out
  subst hbf
  have HB1316 := Lib.hid (kin_trans HB1315.out hf16.bel)
  have HC16 := Lib.hid (slCoI C' nc' ac' cc' (-7) w16 (HSC.out.keep (kin_trans HB913.out HB1316.out)) HC9.out (by unfold maxLen; omega))
  clear hf16 hbb HC15 HB1315
  go_wp2_with fail
  refine HC16.out.mono ?_; rintro e w17 ⟨bb, rfl, hbb, hf17⟩
  have hbf : bb = false := by cases bb; rfl; exact absurd (hbb.1 rfl) HC79.out
  subst hbf
  have HB1317 := Lib.hid (kin_trans HB1316.out hf17.bel)
  have HN17 := Lib.hid (halNmW (HW10.out.keep (kin_trans HF13.out.bel HB1317.out)) h8)
  clear hf17 hbb HC16 HB1316
  go_wp2_with fail
  refine HN17.out.mono ?_; rintro e w18 ⟨ad2, cp2, rfl, hcp2, hf18, hw18⟩
  have HB1318 := Lib.hid (kin_trans HB1317.out hf18.bel)
  have HE3 := Lib.hid (slEqS (nmsM s.M) (nmsM s.M) s.M.length s.M.length ad2 ak cp2 ck w18 (hf18.get 0 rfl) (HKS.out.keep HB1318.out) HLEN.out HLEN.out (by unfold maxLen; omega) (by unfold maxLen; omega))
  clear hf18 hw18 HN17
  go_wp2_with fail
  refine HE3.out.mono ?_; rintro e w19 ⟨rfl, hf19⟩
  simp only [decide_true]
  have HB19 := Lib.hid (kin_trans HB1318.out hf19.bel)
  clear hf19 HE3
  go_wp2_with fail
  go_ret
  exact ⟨rfl, kin_trans (kin_trans HB4.out HB413.out) HB19.out⟩
end Go.Proofs.Ytfompfaepabpgaa

/- The law's maker of entries: it makes some row of entries of its own. -/
import Derived.Test.YtfpeeilenocaoaaIdxTake
import Derived.Test.YtfpeeilenocaoaaIdxItem
namespace Go.Proofs.Ytfpeeilenocaoaa.Idx
open Go.RowKit Go.Proofs.Ytfpeeilenocaoaa.Own Go.Proofs.Ytfpeeilenocaoaa.Rely Go.Proofs.Ytfpeeilenocaoaa.Crc Go.Proofs.Ytfpeeilenocaoaa.Frame
attribute [local go_sem] max_ints min_ints
/-- What the maker leaves. -/
structure MadeE (w : World) (l : List Itm) (v : Value) (L : List Ent) (w' : World) : Prop where
  row : RowE v L w' (fun k => v.ownBlock = some k)
  fresh : ∀ k, v.ownBlock = some k → w.heap.size ≤ k
  ext : Ext w w'
  nmb : NmB L
  len : L.length ≤ 60
  some_ : 0 < l.length → (l.getD 0 t0).2.2.2.length ≤ 50 → 1 ≤ L.length
theorem str_one (nb : List Int) : strOfNums nb ++ (⟨#[1]⟩ : ByteArray) = strOfNums (nb ++ [1]) := by
  rw [← str_app]; rfl
set_option maxHeartbeats 16000000 in
set_option maxRecDepth 20000 in
theorem make_c (A : Option Addr) (c : Nat) (l : List Itm) (w : World) (hr : ReadsI w A l) (hok : ∀ x ∈ l, Itm.Ok x) (hl : l.length ≤ 1000) (at_ : Nat) (hat : at_ ≤ 65535) :
    Calls Try.prog 23 #[.slice A l.length c, .int .u16 at_] w fun e w' => ∃ v L, e = .returned v ∧ MadeE w l v L w' := by
  have HR := Lib.hid hr
  have HOK := Lib.hid hok
  clear hr hok
  go_enter Try.func23, Try.ntmps23
  go_wp2_with fail
  go_loopw [5, 6, 7, 14] (fun v5 v6 v7 v14 wq => ∃ (i pl : Nat) (nb : List Int) (acc : List Ent), i ≤ l.length ∧ i ≤ 60 ∧ v14 = .int .i64 i ∧ v6 = .int .i64 pl ∧ v7 = .string (strOfNums nb) ∧ IsBytes nb ∧ nb.length ≤ 255 ∧ RowE v5 acc wq (fun k => v5.ownBlock = some k) ∧ (∀ k, v5.ownBlock = some k → w.heap.size ≤ k) ∧ Ext w wq ∧ NmB acc ∧ acc.length = i ∧ (i = 0 → nb = []) ∧ (pl : Int) ≤ 65535 + 65536 * (i : Int)) (fun _ _ _ v _ => l.length - (intOf v).toNat)
  case atStart => exact ⟨0, at_, [], [], by omega, by omega, rfl, rfl, rfl, (fun x hx => by cases hx), by simp, ⟨(RowE.nil _).1, fun b => Iff.rfl⟩, (fun k hk => by simp [Value.ownBlock] at hk), Ext.refl _, (fun x hx => by cases hx), rfl, (fun _ => rfl), by omega⟩
  case round =>
    obtain ⟨i, pl, nb, acc, hi, hi60, rfl, rfl, rfl, hnb, hnl, hrow, hown, hx, hnm, hal, hnb0, hpl⟩ := hrel
    obtain ⟨A5, c5, e5, _⟩ := hrow.shape
    subst e5
    have HROW := Lib.hid hrow
    have HOWN := Lib.hid hown
    have XL := Lib.hid hx
    have HNB := Lib.hid hnb
    have HNM := Lib.hid hnm
    have HAL := Lib.hid hal
    have hacc : acc.length ≤ 60 := by omega
    have FIN : RowKit.Hid ((0 < l.length → (l.getD 0 t0).2.2.2.length ≤ 50 → 1 ≤ i) → MadeE w l (.slice A5 acc.length c5) acc wr) := Lib.hid (fun h => ⟨hrow, hown, hx, hnm, hacc, fun a b => by have := h a b; omega⟩)
    have HLT := Lib.hid (fun k hk => (Lcl.rowE _ _).lt hrow (k := k) hk)
    have HNB0 := Lib.hid hnb0
    clear hrow hown hx hnb hnm hal hnb0
    by_cases hi2 : i < l.length
    · have d1 : decide ((i : Int) < (l.length : Int)) = true := by simp; omega
      obtain ⟨b, o, A3, c3, rfl, hb, c0, c1, c2, c3c, hrd3, hc3, hc3m⟩ := HR.out.ext XL.out i hi2
      have hokx := HOK.out (l.getD i t0) (by rw [List.getD_eq_getElem?_getD, List.getElem?_eq_getElem hi2]; exact List.getElem_mem hi2)
      obtain ⟨x, hx⟩ : ∃ x, l.getD i t0 = x := ⟨_, rfl⟩
      rw [hx] at c0 c1 c2 c3c hrd3 hc3 hokx
      obtain ⟨lt, mo, sz, tl⟩ := x
      obtain ⟨hlt, hmo, hszr, htb⟩ := hokx
      simp only at c0 c1 c2 c3c hrd3 hc3 hlt hmo hszr htb
      obtain ⟨ltn, rfl⟩ : ∃ n : Nat, lt = (n : Int) := ⟨lt.toNat, by omega⟩
      obtain ⟨mon, rfl⟩ : ∃ n : Nat, mo = (n : Int) := ⟨mo.toNat, by omega⟩
      obtain ⟨sn, rfl⟩ : ∃ n : Nat, sz = (n : Int) := ⟨sz.toNat, by omega⟩
      have HTB := Lib.hid htb
      have HRD3 := Lib.hid hrd3
      clear htb hrd3 hb
      have hx9 : Ext wr (wr.alloc (.cells #[.int .u8 ltn, .int .u8 mon, .int .u16 sn, .slice A3 tl.length c3] 61)) := (Below.refl _ _).alloc (Nat.le_refl _) _
      have hb9 := heap_alloc_new wr (.cells #[.int .u8 ltn, .int .u8 mon, .int .u16 sn, .slice A3 tl.length c3] 61)
      have y0 := Blk.cell (S := fun q => q = wr.heap.size) ⟨hb9, fun _ => Iff.rfl⟩ 0
      have y1 := Blk.cell (S := fun q => q = wr.heap.size) ⟨hb9, fun _ => Iff.rfl⟩ 1
      have y2 := Blk.cell (S := fun q => q = wr.heap.size) ⟨hb9, fun _ => Iff.rfl⟩ 2
      have y3 := Blk.cell (S := fun q => q = wr.heap.size) ⟨hb9, fun _ => Iff.rfl⟩ 3
      simp only [List.getElem?_toArray, List.getElem?_cons_zero, List.getElem?_cons_succ] at y0 y1 y2 y3
      have X9 := Lib.hid (Ext.trans _ _ _ XL.out hx9)
      have HROW9 := Lib.hid (Ext.keep (Lcl.rowE _ _) hx9 HROW.out)
      have HRD9 := Lib.hid (hx9.reads HRD3.out)
      have hxw : RowKit.Hid (Ext wr (wr.alloc (.cells #[.int .u8 ltn, .int .u8 mon, .int .u16 sn, .slice A3 tl.length c3] 61))) := Lib.hid hx9
      clear hb9 hx9 HRD3 HROW XL
      have FINI : RowKit.Hid (∀ w2, Ext wr w2 → (0 < l.length → (l.getD 0 t0).2.2.2.length ≤ 50 → 1 ≤ i) → MadeE w l (.slice A5 acc.length c5) acc w2) := Lib.hid (fun w2 e h => by
        have m := FIN.out h
        exact ⟨Ext.keep (Lcl.rowE _ _) e m.row, m.fresh, Ext.trans _ _ _ m.ext e, m.nmb, m.len, m.some_⟩)
      have HX := Lib.hid hx
      clear hx FIN
      by_cases h60 : 60 ≤ i
      · have d2 : decide ((60 : Int) ≤ (i : Int)) = true := by simp; omega
        go_wp2_with fail
        go_ret
        exact ⟨_, acc, rfl, FINI.out _ hxw.out (fun _ _ => by omega)⟩
      have d2 : decide ((60 : Int) ≤ (i : Int)) = false := by simp; omega
      by_cases h50 : 50 < tl.length
      · have d3 : decide ((50 : Int) < (tl.length : Int)) = true := by simp; omega
        go_wp2_with fail
        go_ret
        refine ⟨_, acc, rfl, FINI.out _ hxw.out (fun _ h => ?_)⟩
        by_cases i0 : i = 0
        · have hq := HX.out; rw [i0] at hq; rw [hq] at h; exact absurd h (by simp only; omega)
        · omega
      have d3 : decide ((50 : Int) < (tl.length : Int)) = false := by simp; omega
      have hwm : (mon : Int).tmod 3 = ((mon % 3 : Nat) : Int) := by rw [Int.tmod_eq_emod_of_nonneg (by omega)]; rfl
      obtain ⟨M3, hM3⟩ : ∃ M3, mon % 3 = M3 := ⟨_, rfl⟩
      rw [hM3] at hwm
      clear hM3
      have hszn : (strOfNums nb).size = nb.length := Crc.size_str nb
      have hsn1 : (sn : Int) ≤ 65535 := hszr.2
      obtain ⟨w9, hw9⟩ : ∃ w9, wr.alloc (.cells #[.int .u8 ltn, .int .u8 mon, .int .u16 sn, .slice A3 tl.length c3] 61) = w9 := ⟨_, rfl⟩
      rw [hw9] at y0 y1 y2 y3 X9 HROW9 HRD9 hxw
      by_cases hn : nb = []
      · subst hn
        by_cases h25 : i < 25
        · have hne2 : (strOfNums []).toList.isEmpty = true := by rw [strOfNums_toList]; rfl
          have hne3 : (strOfNums []).toList = [] := by rw [strOfNums_toList]; rfl
          obtain ⟨wl, hwl⟩ : ∃ wl, w9.alloc (.cells #[.int .u8 (97 + (i : Int))] 5) = wl := ⟨_, rfl⟩
          have hxl : Ext w9 wl := by rw [← hwl]; exact (Below.refl _ _).alloc (Nat.le_refl _) _
          have hrow0 := Row.lit 5 .u8 [97 + (i : Int)] w9 (by simp)
          have hrd0 : Reads wl .u8 (some ⟨w9.heap.size, 0, none⟩) [97 + (i : Int)] := by rw [← hwl]; exact hrow0.readsAt
          have cv4 : (convert 22 9 (.slice (some ⟨w9.heap.size, 0, none⟩) 1 1)).run Try.prog wl = .ok (.string (strOfNums [97 + (i : Int)])) wl := hrd0.string (P := Try.prog) Try.underlying22 Try.underlying5 Try.underlying9 1
          have cv5 : (convert 22 9 (.slice A3 tl.length c3)).run Try.prog wl = .ok (.string (strOfNums tl)) wl := (hxl.reads HRD9.out).string (P := Try.prog) Try.underlying22 Try.underlying5 Try.underlying9 c3
          obtain ⟨NB, hNB⟩ : ∃ NB, [97 + (i : Int)] ++ tl = NB := ⟨_, rfl⟩
          have HNBB := Lib.hid (show IsBytes NB by rw [← hNB]; exact Wire.IsBytes.app (fun x hx => by rw [List.mem_singleton.1 hx]; omega) HTB.out)
          have hNBl : NB.length = 1 + tl.length := by rw [← hNB, List.length_append]; simp
          have hstr : strOfNums [97 + (i : Int)] ++ strOfNums tl = strOfNums NB := by rw [str_app, hNB]
          have hsz2 : (strOfNums tl).size = tl.length := Crc.size_str tl
          have hsz3 : (strOfNums [97 + (i : Int)]).size = 1 := Crc.size_str [97 + (i : Int)]
          have hszB : (strOfNums NB).size = NB.length := Crc.size_str NB
          have hl1 : NB.length ≤ 255 := by omega
          have d4 : decide ((i : Int) < 25) = true := by simp; omega
          have d5 : (97 + (i : Int)) % 256 = 97 + (i : Int) := by omega
          have yc2 := hxl.cell y2
          have yc3 := hxl.cell y3
          have XC := Lib.hid (Ext.trans _ _ _ X9.out hxl)
          have XWC := Lib.hid (Ext.trans _ _ _ hxw.out hxl)
          have ROWC := Lib.hid (Ext.keep (Lcl.rowE _ _) hxl HROW9.out)
          clear hrow0 hrd0 hNB hNBl hxl
          have d9 : decide ((255 : Int) < (NB.length : Int)) = false := by simp; omega
          have hlen : (acc.length + 1) * 32 ≤ 140737488355328 := by omega
          have HSEP := Lib.hid (Sep.emp_right ROWC.out)
          go_wp2_with (at_builtin; refine append_ent wl rfl _ _ 50 rfl (.agg #[.string ⟨#[]⟩, .int .i64 0, .int .i64 0]) 32 Try.underlying50 info_ent rfl (.slice A5 acc.length c5) acc (NB, (pl : Int), 1 + (sn : Int)) rfl rfl Lcl.emp HSEP.out hlen (by decide) ?_; intro A' c' w' S' h' st'; have cz2 := st'.keep.cell yc2 (fun h => absurd (HLT.out _ h) (by simp)); have HA' := Lib.hid h'; have HT' := Lib.hid st'; clear h' st')
          go_roundw
          case rel =>
            have hro := row_own HA'.out.left_of_emp
            refine ⟨i + 1, pl + (1 + sn), NB, acc ++ [(NB, (pl : Int), 1 + (sn : Int))], by omega, by omega, by go_num, by go_num, rfl, HNBB.out, by omega, hro.1, fun q hq => ?_, Below.trans XC.out (HT'.out.keep.below XC.out.size (fun x hx hz => by have := HOWN.out x hz; omega)), fun x hx => ?_, by simp [HAL.out], (fun h => absurd h (by omega)), by omega⟩
            · rcases HT'.out.fresh q ((hro.2 q).2 hq) with y | y
              · exact HOWN.out q y
              · exact Nat.le_trans XC.out.size y
            · rcases List.mem_append.1 hx with hx | hx
              · exact HNM.out x hx
              · rw [List.mem_singleton.1 hx]; exact HNBB.out
          case measure => simp [intOf]; omega
        · have hne2 : (strOfNums []).toList.isEmpty = true := by rw [strOfNums_toList]; rfl
          have hne3 : (strOfNums []).toList = [] := by rw [strOfNums_toList]; rfl
          obtain ⟨NB, hNB⟩ : ∃ NB, [] ++ [(1 : Int)] = NB := ⟨_, rfl⟩
          have HNBB := Lib.hid (show IsBytes NB by rw [← hNB]; exact Wire.IsBytes.app HNB.out (fun x hx => by rw [List.mem_singleton.1 hx]; omega))
          have hNBl : NB.length = ([] : List Int).length + 1 := by rw [← hNB, List.length_append]; rfl
          have hstr : strOfNums [] ++ (⟨#[1]⟩ : ByteArray) = strOfNums NB := by rw [str_one, hNB]
          have hszB : (strOfNums NB).size = NB.length := Crc.size_str NB
          have hl1 : NB.length ≤ 1000 := by (try simp only [List.length_nil] at hNBl); omega
          have HNL := Lib.hid hNBl
          have d4 : decide ((i : Int) < 25) = false := by simp; omega
          clear hNB hNBl
          by_cases h255 : 255 < NB.length
          · have d9 : decide ((255 : Int) < (NB.length : Int)) = true := by simp; omega
            go_wp2_with fail
            go_ret
            first | exact ⟨_, acc, rfl, FINI.out _ hxw.out (fun _ _ => by omega)⟩ | exact ⟨_, rfl, acc, FINI.out _ hxw.out (fun _ _ => by omega)⟩
          · have d9 : decide ((255 : Int) < (NB.length : Int)) = false := by simp; omega
            have hlen : (acc.length + 1) * 32 ≤ 140737488355328 := by omega
            have HSEP := Lib.hid (Sep.emp_right HROW9.out)
            go_wp2_with (at_builtin; refine append_ent w9 rfl _ _ 50 rfl (.agg #[.string ⟨#[]⟩, .int .i64 0, .int .i64 0]) 32 Try.underlying50 info_ent rfl (.slice A5 acc.length c5) acc (NB, (pl : Int), 1 + (sn : Int)) rfl rfl Lcl.emp HSEP.out hlen (by decide) ?_; intro A' c' w' S' h' st'; have cz2 := st'.keep.cell y2 (fun h => absurd (HLT.out _ h) (by simp)); have HA' := Lib.hid h'; have HT' := Lib.hid st'; clear h' st')
            go_roundw
            case rel =>
              have hro := row_own HA'.out.left_of_emp
              refine ⟨i + 1, pl + (1 + sn), NB, acc ++ [(NB, (pl : Int), 1 + (sn : Int))], by omega, by omega, by go_num, by go_num, rfl, HNBB.out, by omega, hro.1, fun q hq => ?_, Below.trans X9.out (HT'.out.keep.below X9.out.size (fun x hx hz => by have := HOWN.out x hz; omega)), fun x hx => ?_, by simp [HAL.out], (fun h => absurd h (by omega)), by omega⟩
              · rcases HT'.out.fresh q ((hro.2 q).2 hq) with y | y
                · exact HOWN.out q y
                · exact Nat.le_trans X9.out.size y
              · rcases List.mem_append.1 hx with hx | hx
                · exact HNM.out x hx
                · rw [List.mem_singleton.1 hx]; exact HNBB.out
            case measure => simp [intOf]; omega
      · by_cases hm : M3 = 0
        · have hne2 : (strOfNums nb).toList.isEmpty = false := by rw [strOfNums_toList]; cases nb with | nil => exact absurd rfl hn | cons a q => rfl
          have hne3 : ¬ (strOfNums nb).toList = [] := by intro h; rw [h] at hne2; cases hne2
          obtain rfl : M3 = 0 := hm
          have hi0 : i ≠ 0 := fun h => hn (HNB0.out h)
          obtain ⟨wl, hwl⟩ : ∃ wl, w9.alloc (.cells #[.int .u8 ltn] 5) = wl := ⟨_, rfl⟩
          have hxl : Ext w9 wl := by rw [← hwl]; exact (Below.refl _ _).alloc (Nat.le_refl _) _
          have hrow0 := Row.lit 5 .u8 [(ltn : Int)] w9 (by simp)
          replace hrow0 : Row 5 .u8 (.slice (some ⟨w9.heap.size, 0, none⟩) 1 1) [(ltn : Int)] wl (fun b => b = w9.heap.size) := by rw [← hwl]; exact hrow0
          obtain ⟨v4, w4, S4, hrun4, hrow4, hst4⟩ := run_append (P := Try.prog) wl 22 22 5 .u8 1 Try.underlying22 Crc.info_u8 (by decide) (.slice (some ⟨w9.heap.size, 0, none⟩) 1 1) [(ltn : Int)] tl _ A3 c3 hrow0 (hxl.reads HRD9.out) (by simp; omega)
          obtain ⟨A4, c4, rfl, _⟩ := hrow4.shape
          have hx4 : Ext w9 w4 := Below.trans hxl (hst4.keep.below hxl.size (fun x hx hz => by have hz' : x = w9.heap.size := hz; omega))
          have yl3 := hxl.cell y3
          have cv4 : (convert 22 9 (.slice A4 ([(ltn : Int)] ++ tl).length c4)).run Try.prog w4 = .ok (.string (strOfNums ([(ltn : Int)] ++ tl))) w4 := (readsAny hrow4).string (P := Try.prog) Try.underlying22 Try.underlying5 Try.underlying9 c4
          have HRUN := Lib.hid hrun4
          obtain ⟨NB, hNB⟩ : ∃ NB, nb ++ ([(ltn : Int)] ++ tl) = NB := ⟨_, rfl⟩
          have HNBB := Lib.hid (show IsBytes NB by rw [← hNB]; exact Wire.IsBytes.app HNB.out (Wire.IsBytes.app (fun x hx => by rw [List.mem_singleton.1 hx]; exact hlt) HTB.out))
          have hNBl : NB.length = nb.length + (1 + tl.length) := by rw [← hNB, List.length_append, List.length_append]; simp
          have hstr : strOfNums nb ++ strOfNums ((ltn : Int) :: tl) = strOfNums NB := by rw [← hNB, ← str_app]; rfl
          have hsz2 : (strOfNums ((ltn : Int) :: tl)).size = 1 + tl.length := by rw [Crc.size_str, List.length_cons]; omega
          have hszB : (strOfNums NB).size = NB.length := Crc.size_str NB
          have HNL := Lib.hid hNBl
          have hl1 : NB.length ≤ 1000 := by omega
          have yc2 := hx4.cell y2
          have XC := Lib.hid (Ext.trans _ _ _ X9.out hx4)
          have XWC := Lib.hid (Ext.trans _ _ _ hxw.out hx4)
          have ROWC := Lib.hid (Ext.keep (Lcl.rowE _ _) hx4 HROW9.out)
          have hsl : ([(ltn : Int)] ++ tl).length = 1 + tl.length := by rw [List.length_append]; simp
          rw [hsl] at cv4
          have HRUN2 := Lib.hid (show (Builtin.append_ #[22, 22] 22 #[.slice (some ⟨w9.heap.size, 0, none⟩) 1 1, .slice A3 tl.length c3]).run Try.prog wl = .ok (.slice A4 (1 + tl.length) c4) w4 from by rw [← hsl]; exact HRUN.out)
          clear hrow0 hrun4 hrow4 hst4 hx4 hNB hNBl HRUN hxl hsl
          subst hwl
          by_cases h255 : 255 < NB.length
          · have d9 : decide ((255 : Int) < (NB.length : Int)) = true := by simp; omega
            go_wp2_with (at_builtin; refine append_known _ rfl _ _ 22 rfl (.slice (some ⟨w9.heap.size, 0, none⟩) 1 1) (.slice A3 tl.length c3) (.slice A4 (1 + tl.length) c4) w4 rfl rfl HRUN2.out ?_)
            go_ret
            first | exact ⟨_, acc, rfl, FINI.out _ XWC.out (fun _ _ => by omega)⟩ | exact ⟨_, rfl, acc, FINI.out _ XWC.out (fun _ _ => by omega)⟩
          · have d9 : decide ((255 : Int) < (NB.length : Int)) = false := by simp; omega
            have hlen : (acc.length + 1) * 32 ≤ 140737488355328 := by omega
            have HSEP := Lib.hid (Sep.emp_right ROWC.out)
            go_wp2_with (first | (at_builtin; refine append_known _ rfl _ _ 22 rfl (.slice (some ⟨w9.heap.size, 0, none⟩) 1 1) (.slice A3 tl.length c3) (.slice A4 (1 + tl.length) c4) w4 rfl rfl HRUN2.out ?_) |  (at_builtin; refine append_ent w4 rfl _ _ 50 rfl (.agg #[.string ⟨#[]⟩, .int .i64 0, .int .i64 0]) 32 Try.underlying50 info_ent rfl (.slice A5 acc.length c5) acc (NB, (pl : Int), 1 + (sn : Int)) rfl rfl Lcl.emp HSEP.out hlen (by decide) ?_; intro A' c' w' S' h' st'; have cz2 := st'.keep.cell yc2 (fun h => absurd (HLT.out _ h) (by simp)); have HA' := Lib.hid h'; have HT' := Lib.hid st'; clear h' st'))
            go_roundw
            case rel =>
              have hro := row_own HA'.out.left_of_emp
              refine ⟨i + 1, pl + (1 + sn), NB, acc ++ [(NB, (pl : Int), 1 + (sn : Int))], by omega, by omega, by go_num, by go_num, rfl, HNBB.out, by omega, hro.1, fun q hq => ?_, Below.trans XC.out (HT'.out.keep.below XC.out.size (fun x hx hz => by have := HOWN.out x hz; omega)), fun x hx => ?_, by simp [HAL.out], (fun h => absurd h (by omega)), by omega⟩
              · rcases HT'.out.fresh q ((hro.2 q).2 hq) with y | y
                · exact HOWN.out q y
                · exact Nat.le_trans XC.out.size y
              · rcases List.mem_append.1 hx with hx | hx
                · exact HNM.out x hx
                · rw [List.mem_singleton.1 hx]; exact HNBB.out
            case measure => simp [intOf]; omega
        · have dm : decide ((M3 : Int) = 0) = false := by simp; omega
          have dm2 : ((M3 : Int) == 0) = false := by simp; omega
          by_cases h25 : i < 25
          · have hne2 : (strOfNums nb).toList.isEmpty = false := by rw [strOfNums_toList]; cases nb with | nil => exact absurd rfl hn | cons a q => rfl
            have hne3 : ¬ (strOfNums nb).toList = [] := by intro h; rw [h] at hne2; cases hne2
            obtain ⟨wl, hwl⟩ : ∃ wl, w9.alloc (.cells #[.int .u8 (97 + (i : Int))] 5) = wl := ⟨_, rfl⟩
            have hxl : Ext w9 wl := by rw [← hwl]; exact (Below.refl _ _).alloc (Nat.le_refl _) _
            have hrow0 := Row.lit 5 .u8 [97 + (i : Int)] w9 (by simp)
            have hrd0 : Reads wl .u8 (some ⟨w9.heap.size, 0, none⟩) [97 + (i : Int)] := by rw [← hwl]; exact hrow0.readsAt
            have cv4 : (convert 22 9 (.slice (some ⟨w9.heap.size, 0, none⟩) 1 1)).run Try.prog wl = .ok (.string (strOfNums [97 + (i : Int)])) wl := hrd0.string (P := Try.prog) Try.underlying22 Try.underlying5 Try.underlying9 1
            have cv5 : (convert 22 9 (.slice A3 tl.length c3)).run Try.prog wl = .ok (.string (strOfNums tl)) wl := (hxl.reads HRD9.out).string (P := Try.prog) Try.underlying22 Try.underlying5 Try.underlying9 c3
            obtain ⟨NB, hNB⟩ : ∃ NB, [97 + (i : Int)] ++ tl = NB := ⟨_, rfl⟩
            have HNBB := Lib.hid (show IsBytes NB by rw [← hNB]; exact Wire.IsBytes.app (fun x hx => by rw [List.mem_singleton.1 hx]; omega) HTB.out)
            have hNBl : NB.length = 1 + tl.length := by rw [← hNB, List.length_append]; simp
            have hstr : strOfNums [97 + (i : Int)] ++ strOfNums tl = strOfNums NB := by rw [str_app, hNB]
            have hsz2 : (strOfNums tl).size = tl.length := Crc.size_str tl
            have hsz3 : (strOfNums [97 + (i : Int)]).size = 1 := Crc.size_str [97 + (i : Int)]
            have hszB : (strOfNums NB).size = NB.length := Crc.size_str NB
            have hl1 : NB.length ≤ 255 := by omega
            have d4 : decide ((i : Int) < 25) = true := by simp; omega
            have d5 : (97 + (i : Int)) % 256 = 97 + (i : Int) := by omega
            have yc2 := hxl.cell y2
            have yc3 := hxl.cell y3
            have XC := Lib.hid (Ext.trans _ _ _ X9.out hxl)
            have XWC := Lib.hid (Ext.trans _ _ _ hxw.out hxl)
            have ROWC := Lib.hid (Ext.keep (Lcl.rowE _ _) hxl HROW9.out)
            clear hrow0 hrd0 hNB hNBl hxl
            have d9 : decide ((255 : Int) < (NB.length : Int)) = false := by simp; omega
            have hlen : (acc.length + 1) * 32 ≤ 140737488355328 := by omega
            have HSEP := Lib.hid (Sep.emp_right ROWC.out)
            go_wp2_with (at_builtin; refine append_ent wl rfl _ _ 50 rfl (.agg #[.string ⟨#[]⟩, .int .i64 0, .int .i64 0]) 32 Try.underlying50 info_ent rfl (.slice A5 acc.length c5) acc (NB, (pl : Int), 1 + (sn : Int)) rfl rfl Lcl.emp HSEP.out hlen (by decide) ?_; intro A' c' w' S' h' st'; have cz2 := st'.keep.cell yc2 (fun h => absurd (HLT.out _ h) (by simp)); have HA' := Lib.hid h'; have HT' := Lib.hid st'; clear h' st')
            go_roundw
            case rel =>
              have hro := row_own HA'.out.left_of_emp
              refine ⟨i + 1, pl + (1 + sn), NB, acc ++ [(NB, (pl : Int), 1 + (sn : Int))], by omega, by omega, by go_num, by go_num, rfl, HNBB.out, by omega, hro.1, fun q hq => ?_, Below.trans XC.out (HT'.out.keep.below XC.out.size (fun x hx hz => by have := HOWN.out x hz; omega)), fun x hx => ?_, by simp [HAL.out], (fun h => absurd h (by omega)), by omega⟩
              · rcases HT'.out.fresh q ((hro.2 q).2 hq) with y | y
                · exact HOWN.out q y
                · exact Nat.le_trans XC.out.size y
              · rcases List.mem_append.1 hx with hx | hx
                · exact HNM.out x hx
                · rw [List.mem_singleton.1 hx]; exact HNBB.out
            case measure => simp [intOf]; omega
          · have hne2 : (strOfNums nb).toList.isEmpty = false := by rw [strOfNums_toList]; cases nb with | nil => exact absurd rfl hn | cons a q => rfl
            have hne3 : ¬ (strOfNums nb).toList = [] := by intro h; rw [h] at hne2; cases hne2
            obtain ⟨NB, hNB⟩ : ∃ NB, nb ++ [(1 : Int)] = NB := ⟨_, rfl⟩
            have HNBB := Lib.hid (show IsBytes NB by rw [← hNB]; exact Wire.IsBytes.app HNB.out (fun x hx => by rw [List.mem_singleton.1 hx]; omega))
            have hNBl : NB.length = (nb : List Int).length + 1 := by rw [← hNB, List.length_append]; rfl
            have hstr : strOfNums nb ++ (⟨#[1]⟩ : ByteArray) = strOfNums NB := by rw [str_one, hNB]
            have hszB : (strOfNums NB).size = NB.length := Crc.size_str NB
            have hl1 : NB.length ≤ 1000 := by (try simp only [List.length_nil] at hNBl); omega
            have HNL := Lib.hid hNBl
            have d4 : decide ((i : Int) < 25) = false := by simp; omega
            clear hNB hNBl
            by_cases h255 : 255 < NB.length
            · have d9 : decide ((255 : Int) < (NB.length : Int)) = true := by simp; omega
              go_wp2_with fail
              go_ret
              first | exact ⟨_, acc, rfl, FINI.out _ hxw.out (fun _ _ => by omega)⟩ | exact ⟨_, rfl, acc, FINI.out _ hxw.out (fun _ _ => by omega)⟩
            · have d9 : decide ((255 : Int) < (NB.length : Int)) = false := by simp; omega
              have hlen : (acc.length + 1) * 32 ≤ 140737488355328 := by omega
              have HSEP := Lib.hid (Sep.emp_right HROW9.out)
              go_wp2_with (at_builtin; refine append_ent w9 rfl _ _ 50 rfl (.agg #[.string ⟨#[]⟩, .int .i64 0, .int .i64 0]) 32 Try.underlying50 info_ent rfl (.slice A5 acc.length c5) acc (NB, (pl : Int), 1 + (sn : Int)) rfl rfl Lcl.emp HSEP.out hlen (by decide) ?_; intro A' c' w' S' h' st'; have cz2 := st'.keep.cell y2 (fun h => absurd (HLT.out _ h) (by simp)); have HA' := Lib.hid h'; have HT' := Lib.hid st'; clear h' st')
              go_roundw
              case rel =>
                have hro := row_own HA'.out.left_of_emp
                refine ⟨i + 1, pl + (1 + sn), NB, acc ++ [(NB, (pl : Int), 1 + (sn : Int))], by omega, by omega, by go_num, by go_num, rfl, HNBB.out, by omega, hro.1, fun q hq => ?_, Below.trans X9.out (HT'.out.keep.below X9.out.size (fun x hx hz => by have := HOWN.out x hz; omega)), fun x hx => ?_, by simp [HAL.out], (fun h => absurd h (by omega)), by omega⟩
                · rcases HT'.out.fresh q ((hro.2 q).2 hq) with y | y
                  · exact HOWN.out q y
                  · exact Nat.le_trans X9.out.size y
                · rcases List.mem_append.1 hx with hx | hx
                  · exact HNM.out x hx
                  · rw [List.mem_singleton.1 hx]; exact HNBB.out
              case measure => simp [intOf]; omega
    · obtain rfl : i = l.length := by omega
      go_wp2_with fail
      go_ret
      exact ⟨_, acc, rfl, FIN.out (fun h _ => h)⟩
end Go.Proofs.Ytfpeeilenocaoaa.Idx

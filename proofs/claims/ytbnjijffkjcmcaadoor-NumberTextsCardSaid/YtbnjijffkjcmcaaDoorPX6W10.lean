import Derived.Test.YtbnjijffkjcmcaaDoorPX6W9
import Derived.Test.YtbnjijffkjcmcaaDoorPX6W3
import Derived.Test.YtbnjijffkjcmcaaDoorPX6W8
/- What single functions compute: a part of the proof; no conditions. -/
set_option linter.unusedVariables false
set_option linter.unusedSimpArgs false
set_option maxRecDepth 100000
set_option linter.unusedSectionVars false
namespace Go.Proofs.YtbnjijffkjcmcaaDoor.AL
open Go
attribute [local simp] qf cv qbin ibin sbin qun retPost rvOk ctV ctPost marksOk retV resAll resOf V.lt ltL V.ren renL V.exp V.exp1 cleanL V.clean closedL V.closed V.cells V.one V.tree
  loadV cellsAt isNC nilQ isSlD isIfD slNew ownRows ownCells V.isOwn slStore srcO qlook mlook mget mstr zval qnone qmake mput lmap isAggD placesOf fillV putCells lstore bound seqParts V.sh shL Blk.sh newV V.ok peqs peq srcRows qbytes byteSl appOk mmV mmR hidE V.fz fzL Blk.fz fzOk and_assoc
attribute [-simp] Int.not_le Int.not_lt Nat.not_le Nat.not_lt
/-! The reference's groups. -/
noncomputable def SGps : List V → Option Res
  | [.str s, .int .u8 c, .int .u64 b, .int .u64 lim] => ifC ((b = 10 ∨ b = 16) ∧ (0 ≤ lim ∧ lim < 18446744073709551616) ∧ s.size < 100000 ∧ 0 ≤ c ∧ c < 256)
      (some ⟨.tup [.own 0, .bool (rgr (UInt8.ofNat c.toNat) b.toNat lim.toNat s.data.toList).isSome], [.sl 1 22 (uRows (rgL (UInt8.ofNat c.toNat) b.toNat lim.toNat s.data.toList))]⟩)
  | _ => none
theorem gps_at {l : List UInt8} (c : UInt8) {b lim : Nat} (hb : b = 10 ∨ b = 16) (hlim : lim < 18446744073709551616) (hl : l.length < 100000) :
    SGps [.str (bs l), .int .u8 (c.toNat : Int), .int .u64 (b : Int), .int .u64 (lim : Int)] = some ⟨.tup [.own 0, .bool (rgr c b lim l).isSome], [.sl 1 22 (uRows (rgL c b lim l))]⟩ := by
  have := c.toNat_lt
  simp only [SGps, bs_size, bs_data]
  rw [ifC_pos ⟨by omega, ⟨by omega, by omega⟩, hl, by omega, by omega⟩]
  rw [Int.toNat_natCast, Int.toNat_natCast, Int.toNat_natCast, show UInt8.ofNat c.toNat = c from by simp]
/-- The groups so far. -/
def gsf (b lim : Nat) (ps : List (List UInt8)) (k : Nat) : List Nat := (ps.take k).map fun p => (rnum b lim p).1
theorem gsf_snoc {b lim : Nat} {ps : List (List UInt8)} {k : Nat} (h : k < ps.length) : gsf b lim ps (k + 1) = gsf b lim ps k ++ [(rnum b lim ps[k]).1] := by
  unfold gsf; rw [List.take_succ_eq_append_getElem h, List.map_append]; rfl
theorem uRows_app1 (L : List Nat) (x : Nat) : uRows L ++ [[.int .u64 (x : Int)]] = uRows (L ++ [x]) := by unfold uRows; rw [List.map_append]; rfl
def M_f59 : Md := fun i => some #[]
@[simp] theorem M_f59_eq {i : Nat} : M_f59 i = (some #[]) := rfl
theorem runs_ref01_groups : ∀ args r, SGps args = some r → Runs Tryd.prog 59 args r := by
  intro args r hh
  unfold SGps ifC at hh
  split at hh
  · rename_i s0 c0 b0 lim0
    obtain ⟨l, rfl⟩ := bs_ex s0
    rw [bs_size, bs_data] at hh
    split at hh
    · rename_i hin
      obtain ⟨hb0, hlim, hlen, hc0, hc1⟩ := hin
      obtain ⟨b, rfl⟩ : ∃ k : Nat, b0 = k := ⟨b0.toNat, by omega⟩
      obtain ⟨lim, rfl⟩ : ∃ k : Nat, lim0 = k := ⟨lim0.toNat, by omega⟩
      obtain ⟨c, rfl⟩ : ∃ c : UInt8, c0 = (c.toNat : Int) := ⟨UInt8.ofNat c0.toNat, by simp; omega⟩
      simp only [Int.toNat_natCast, show UInt8.ofNat c.toNat = c from by simp] at hh
      have hb : b = 10 ∨ b = 16 := by omega
      have hT : ((T0.add 63 SPrt).add 64 SNm).ok Tryd.prog := Tab.add_ok (Tab.add_ok (T0_ok _) runs_ref01_Parts) runs_ref01_Number
      refine Runs.of_body Tryd.func59 (by decide) rfl (by simp [Tryd.f59]) ?_
      refine W.seqE hT mixed M_f59 (by kernel_rfl) ?_
      simp [Tryd.f59]
      have he : (bs l).toList = l := bs_toList l
      by_cases hl0 : l = []
      · subst hl0
        have e1 : rgr c b lim [] = some [] := rfl
        have e2 : rgL c b lim [] = [] := rfl
        rw [e1, e2] at hh
        cases hh
        refine W.cut False [] [] 43 ?_ (fun h => h.elim)
        have e3 : bs [] = (⟨#[]⟩ : ByteArray) := rfl
        rw [e3]
        refine W.seqE hT mixed M_f59 (by kernel_rfl) ?_
        simp [Tryd.f59]
        refine W.cond true (by simp) (fun _ => ?_) (by simp)
        refine W.seqE hT mixed M_f59 (by kernel_rfl) ?_
        simp
        refine W.wk (Wk.adopt 8 1 22 (by omega) (by simp)) ?_
        refine W.of_WE hT mixed M_f59 _ (by kernel_rfl) ?_
        simp [Tryd.f59, uRows]
      · have e1 : rgr c b lim l = rgs b lim (spl c l) := by unfold rgr; rw [if_neg hl0]
        have hne : ¬ bs l = (⟨#[]⟩ : ByteArray) := fun q => hl0 (bs_inj.1 (q.trans (show (⟨#[]⟩ : ByteArray) = bs [] from rfl)))
        have hp := prt_at c hlen
        refine W.cut True [(0, .str (bs l)), (1, .int .u8 c.toNat), (2, .int .u64 b), (3, .int .u64 lim)] [] 43 ?_ ?_
        · refine W.of_WE hT mixed M_f59 _ (by kernel_rfl) ?_
          simp [Tryd.f59, hne, he, hl0]
        intro _
        refine W.cut True [(2, .int .u64 b), (3, .int .u64 lim), (10, .own 0)] [.sl 1 9 (bRows (spl c l))] 43 ?_ ?_
        · refine W.of_WE hT mixed M_f59 _ (by kernel_rfl) ?_
          simp [Tryd.f59, hp]
        intro _
        refine W.wk (Wk.freeze 0 (.sl 1 9 (bRows (spl c l))) (by simp) (by simp)) ?_
        refine W.seqE hT mixed M_f59 (by kernel_rfl) ?_
        simp [Tryd.f59]
        refine W.wk (Wk.adopt 11 1 22 (by omega) (by simp)) ?_
        have hpl := spl_len c l
        have hpn := spl_ne c l
        have hpp := spl_part c l
        have hall := rgs_all (b := b) (lim := lim) (spl c l)
        rw [← e1] at hall
        have hrL : (spl c l).all (fun p => (rnum b lim p).2) = true → rgL c b lim l = gsf b lim (spl c l) (spl c l).length := fun q => by
          unfold rgL gsf; rw [hall, if_pos q, List.take_length]; rfl
        have hrN : (spl c l).all (fun p => (rnum b lim p).2) = false → rgr c b lim l = none ∧ rgL c b lim l = [] := fun q => by
          unfold rgL; rw [hall, if_neg (by rw [q]; simp)]; exact ⟨rfl, rfl⟩
        clear hp e1
        generalize hps : spl c l = ps at *
        generalize rgL c b lim l = RL at *
        generalize rgr c b lim l = RO at *
        have hbl : (bRows ps).length = ps.length := bRows_len ps
        have hbg : ∀ k, (h : k < ps.length) → (bRows ps)[k]? = some [.str (bs ps[k])] := fun k h => by unfold bRows; rw [List.getElem?_map, List.getElem?_eq_getElem h]; rfl
        generalize bRows ps = RW at *
        refine W.cut (ps.all (fun p => (rnum b lim p).2) = true) [(11, .own 0)] [.sl 1 22 (uRows (gsf b lim ps ps.length))] 43 ?_ ?_
        · refine W.seqE hT mixed M_f59 (by kernel_rfl) ?_
          simp [Tryd.f59]
          refine W.block (W.for (fun k => ∀ j, (h : j < ps.length) → j < k → (rnum b lim ps[j]).2 = true) (fun k => [(2, .int .u64 b), (3, .int .u64 lim), (10, .rd 1 RW), (11, .own 0), (12, .int .i64 k)]) (fun k => [.sl 1 22 (uRows (gsf b lim ps k))]) 43 ps.length (fun j h h2 => by omega) ?_ ?_)
          · simp [gsf, uRows]
          · intro k hk hJ
            by_cases hlt : k < ps.length
            · have g1 := nm_at (l := ps[k]) hb (lim := lim) (by omega) (by have := hpp ps[k] (List.getElem_mem hlt); omega)
              have g2 := hbg k hlt
              obtain ⟨g2a, g2b⟩ := List.getElem?_eq_some_iff.1 g2
              have w1 : IntKind.i64.wrap ((k : Int) + 1) = (k : Int) + 1 := by rw [wr_i64 (by omega) (by omega)]
              have g3 := gsf_snoc (b := b) (lim := lim) hlt
              have g4 := uRows_app1 (gsf b lim ps k) (rnum b lim ps[k]).1
              rw [← g3] at g4
              have g5 : (uRows (gsf b lim ps k)).length = k := by rw [uRows_len]; unfold gsf; simp; omega
              by_cases hv : (rnum b lim ps[k]).2 = true
              · have hJ' : ∀ j, (h : j < ps.length) → j < k + 1 → (rnum b lim ps[j]).2 = true := fun j h h2 => by
                  by_cases hjk : j = k
                  · subst hjk; exact hv
                  · exact hJ j h (by omega)
                rw [hv] at g1
                generalize (rnum b lim ps[k]).1 = x at *
                generalize ps[k] = p at *
                generalize uRows (gsf b lim ps k) = R1 at *
                generalize uRows (gsf b lim ps (k + 1)) = R2 at *
                refine W.of_WE hT mixed M_f59 _ (by kernel_rfl) ?_
                simp [hlt, hbl, g1, g2b, w1, g4, g5]
                exact ⟨by omega, by omega, hJ'⟩
              · have hf : (rnum b lim ps[k]).2 = false := by simpa using hv
                have hnot : ps.all (fun p => (rnum b lim p).2) = false := by
                  rw [List.all_eq_false]; exact ⟨ps[k], List.getElem_mem hlt, by rw [hf]; simp⟩
                obtain ⟨n1, n2⟩ := hrN hnot
                rw [n1, n2] at hh
                cases hh
                rw [hf] at g1
                refine W.cut True [(2, .int .u64 b), (3, .int .u64 lim), (10, .rd 1 RW), (12, .int .i64 k)] [] 43 ?_ ?_
                · refine W.of_WE hT mixed M_f59 _ (by kernel_rfl) ?_
                  simp [Tryd.f59, hlt, hbl]
                intro _
                refine W.cut False [] [] 43 ?_ (fun h => h.elim)
                refine W.block ?_
                refine W.seqE hT mixed M_f59 (by kernel_rfl) ?_
                simp [Tryd.f59, hlt, hbl, g1, g2b]
                refine W.cut False [] [] 43 ?_ (fun h => h.elim)
                refine W.seqE hT mixed M_f59 (by kernel_rfl) ?_
                simp [Tryd.f59]
                refine W.cond true (by simp) (fun _ => ?_) (by simp)
                refine W.seqE hT mixed M_f59 (by kernel_rfl) ?_
                simp
                refine W.wk (Wk.adopt 8 1 22 (by omega) (by simp)) ?_
                refine W.of_WE hT mixed M_f59 _ (by kernel_rfl) ?_
                simp [Tryd.f59, uRows]
            · obtain rfl : k = ps.length := by omega
              refine W.of_WE hT mixed M_f59 _ (by kernel_rfl) ?_
              simp [hbl]
              intro p hp
              obtain ⟨j, hj, rfl⟩ := List.getElem_of_mem hp
              exact hJ j hj hj
        intro hA
        have hR := hrL hA
        rw [if_pos hA] at hall
        rw [hR, hall] at hh
        cases hh
        refine W.of_WE hT mixed M_f59 _ (by kernel_rfl) ?_
        simp [Tryd.f59]
    · cases hh
  · cases hh

end Go.Proofs.YtbnjijffkjcmcaaDoor.AL
namespace Go.Proofs.YtbnjijffkjcmcaaDoor.AL
open Go
attribute [local simp] qf cv qbin ibin sbin qun retPost rvOk ctV ctPost marksOk retV resAll resOf V.lt ltL V.ren renL V.exp V.exp1 cleanL V.clean closedL V.closed V.cells V.one V.tree
  loadV cellsAt isNC nilQ isSlD isIfD slNew ownRows ownCells V.isOwn slStore srcO qlook mlook mget mstr zval qnone qmake mput lmap isAggD placesOf fillV putCells lstore bound seqParts V.sh shL Blk.sh newV V.ok peqs peq srcRows qbytes byteSl appOk mmV mmR hidE V.fz fzL Blk.fz fzOk and_assoc
attribute [-simp] Int.not_le Int.not_lt Nat.not_le Nat.not_lt
/-! The reference's reading of an address. -/
theorem gps46 {l : List UInt8} (h : l.length < 100000) : SGps [.str (bs l), .int .u8 46, .int .u64 10, .int .u64 255] = some ⟨.tup [.own 0, .bool (rgr 46 10 255 l).isSome], [.sl 1 22 (uRows (rgL 46 10 255 l))]⟩ := gps_at 46 (b := 10) (lim := 255) (.inl rfl) (by omega) h
theorem gps58 {l : List UInt8} (h : l.length < 100000) : SGps [.str (bs l), .int .u8 58, .int .u64 16, .int .u64 65535] = some ⟨.tup [.own 0, .bool (rgr 58 16 65535 l).isSome], [.sl 1 22 (uRows (rgL 58 16 65535 l))]⟩ := gps_at 58 (b := 16) (lim := 65535) (.inr rfl) (by omega) h
theorem rgL_le {c : UInt8} {b lim : Nat} (hb : 2 ≤ b) (hb' : b ≤ 16) (hlim : lim < b ^ 10) (hl64 : lim < 18446744073709551616) (l : List UInt8) : ∀ x ∈ rgL c b lim l, x ≤ lim := by
  unfold rgL
  cases h : rgr c b lim l with
  | none => simp
  | some L => exact (rgr_some hb hb' hlim hl64 h).2
def M_f20 : Md := fun i => if i = 5 then some #[0, 1, 3, 7, 0, 16, 48, 127, 255, 0, 512, 1536, 4095, 8191, 0, 16384, 49152, 131071, 262143, 0, 1048575, 2097151] else if i = 24 then some #[0, 1, 3, 7, 0, 16, 48, 127, 255, 0, 512, 1536, 4095, 8191, 0, 16384, 49152, 131071, 0, 262144, 786432, 1835008, 0, 4194304, 12582912, 33292288, 66846720, 0, 134217728, 402653184, 1073479680, 2147221504, 0, 4294967296, 12884901888, 34359476224, 68719476735, 0, 274877906943] else if i = 28 then some #[0, 0, 3, 7] else some #[]
@[simp] theorem M_f20_eq {i : Nat} : M_f20 i = (if i = 5 then some #[0, 1, 3, 7, 0, 16, 48, 127, 255, 0, 512, 1536, 4095, 8191, 0, 16384, 49152, 131071, 262143, 0, 1048575, 2097151] else if i = 24 then some #[0, 1, 3, 7, 0, 16, 48, 127, 255, 0, 512, 1536, 4095, 8191, 0, 16384, 49152, 131071, 0, 262144, 786432, 1835008, 0, 4194304, 12582912, 33292288, 66846720, 0, 134217728, 402653184, 1073479680, 2147221504, 0, 4294967296, 12884901888, 34359476224, 68719476735, 0, 274877906943] else if i = 28 then some #[0, 0, 3, 7] else some #[]) := rfl
theorem runs_ref01_AddrParse : ∀ args r, SAP args = some r → Runs Tryd.prog 20 args r := by
  intro args r hh
  unfold SAP ifC at hh
  split at hh
  · rename_i s0
    obtain ⟨l, rfl⟩ := bs_ex s0
    rw [bs_size, bs_data] at hh
    split at hh
    · rename_i hlen
      cases hh
      rw [← ra_eq]
      have hsz := bs_size l
      have hT : ((T0.add 59 SGps).add 18 SAddrT).ok Tryd.prog := Tab.add_ok (Tab.add_ok (T0_ok _) runs_ref01_groups) runs_ref01_AddrText
      refine Runs.of_body Tryd.func20 (by decide) rfl (by simp [Tryd.f20]) ?_
      refine W.seqE hT mixed M_f20 (by kernel_rfl) ?_
      simp [Tryd.f20]
      by_cases hlong : 100 < l.length
      · have hr : ra l = none := by unfold ra; rw [if_pos hlong]
        rw [hr]
        refine W.cut False [] [] 173 ?_ (fun h => h.elim)
        refine W.of_WE hT mixed M_f20 _ (by kernel_rfl) ?_
        simp [Tryd.f20, hsz, show (100 : Int) < l.length by omega, paV]
      have hra : ra l = match four (rgr 46 10 255 l) with | some n => some (4, 0, n) | none => ra6 l := by
        unfold ra
        rw [if_neg hlong]
        cases four (rgr 46 10 255 l) <;> rfl
      refine W.cut True [(0, .str (bs l)), (3, .ptr 0 0)] [.box 24 [.int .u64 0, .int .u64 0]] 173 ?_ ?_
      · refine W.of_WE hT mixed M_f20 _ (by kernel_rfl) ?_
        simp [Tryd.f20, hsz, show ¬ (100 : Int) < l.length by omega]
      intro _
      have g46 := gps46 hlen
      refine W.cut (four (rgr 46 10 255 l) = none) [(0, .str (bs l)), (3, .ptr 0 0)] [.box 24 [.int .u64 0, .int .u64 0]] 173 ?_ ?_
      · have hle := rgL_le (c := 46) (b := 10) (lim := 255) (by omega) (by omega) (by omega) (by omega) l
        have hun : rgL 46 10 255 l = (rgr 46 10 255 l).getD [] := rfl
        generalize rgL 46 10 255 l = L at *
        generalize rgr 46 10 255 l = O at *
        refine W.seqE hT mixed M_f20 (by kernel_rfl) ?_
        simp [Tryd.f20, g46]
        cases O with
        | none =>
          refine W.of_WE hT mixed M_f20 _ (by kernel_rfl) ?_
          simp [Tryd.f20, four]
        | some L2 =>
          obtain rfl : L = L2 := hun
          have hln := uRows_len L
          by_cases h4 : L.length = 4
          · obtain ⟨a, b, c, d, rfl⟩ : ∃ a b c d, L = [a, b, c, d] := by
              match L, h4 with
              | [a, b, c, d], _ => exact ⟨a, b, c, d, rfl⟩
            have ha := hle a (by simp)
            have hb := hle b (by simp)
            have hc := hle c (by simp)
            have hd := hle d (by simp)
            have e1 : ra l = some (4, 0, ((a * 256 + b) * 256 + c) * 256 + d) := by rw [hra]; rfl
            rw [e1]
            refine W.of_WE hT mixed M_f20 _ (by kernel_rfl) ?_
            have w1 : IntKind.u64.wrap ((a : Int) * 256) = (a : Int) * 256 := wr_u64 (by omega) (by omega)
            have w2 : IntKind.u64.wrap ((a : Int) * 256 + b) = (a : Int) * 256 + b := wr_u64 (by omega) (by omega)
            have w3 : IntKind.u64.wrap (((a : Int) * 256 + b) * 256) = ((a : Int) * 256 + b) * 256 := wr_u64 (by omega) (by omega)
            have w4 : IntKind.u64.wrap (((a : Int) * 256 + b) * 256 + c) = ((a : Int) * 256 + b) * 256 + c := wr_u64 (by omega) (by omega)
            have w5 : IntKind.u64.wrap ((((a : Int) * 256 + b) * 256 + c) * 256) = (((a : Int) * 256 + b) * 256 + c) * 256 := wr_u64 (by omega) (by omega)
            have w6 : IntKind.u64.wrap ((((a : Int) * 256 + b) * 256 + c) * 256 + d) = (((a : Int) * 256 + b) * 256 + c) * 256 + d := wr_u64 (by omega) (by omega)
            simp [Tryd.f20, uRows, w1, w2, w3, w4, w5, w6, paV]
          · have h4' : ¬ (L.length : Int) = 4 := by omega
            have hf : four (some L) = none := by
              unfold four
              split
              · rename_i e; simp only [Option.some.injEq] at e; rw [e] at h4; simp at h4
              · rfl
            refine W.of_WE hT mixed M_f20 _ (by kernel_rfl) ?_
            simp [Tryd.f20, hln, h4', hf, h4]
      intro hfour
      have hra6 : ra l = ra6 l := by rw [hra, hfour]
      rw [hra6, ra6_eq']
      refine W.seqE hT mixed M_f20 (by kernel_rfl) ?_
      simp [Tryd.f20]
      refine W.cut True [(0, .str (bs l)), (3, .ptr 0 0), (7, .int .i64 (atV l))] [.box 24 [.int .u64 0, .int .u64 0]] 173 ?_ ?_
      · refine W.seqE hT mixed M_f20 (by kernel_rfl) ?_
        simp [Tryd.f20]
        refine W.block (W.for (fun k => k = 0 ∨ k + 1 ≤ l.length) (fun k => [(0, .str (bs l)), (3, .ptr 0 0), (7, .int .i64 (atS l k)), (8, .int .i64 k)]) (fun k => [.box 24 [.int .u64 0, .int .u64 0]]) 173 l.length (.inl rfl) ?_ ?_)
        · simp [atS]
        · intro k hk hJ
          refine W.of_WE hT mixed M_f20 _ (by kernel_rfl) ?_
          have w1 : IntKind.i64.wrap ((k : Int) + 1) = (k : Int) + 1 := by rw [wr_i64 (by omega) (by omega)]
          by_cases hlt : k + 1 < l.length
          · have hlt' : (k : Int) + 1 < l.length := by omega
            by_cases hat : atS l k < 0
            · have hs1 : sat (bs l) (k : Int) = ((l.getD k 0).toNat : Int) := by rw [bs_sat, Int.toNat_natCast]
              have hs2 : sat (bs l) ((k : Int) + 1) = ((l.getD (k + 1) 0).toNat : Int) := by rw [bs_sat, show ((k : Int) + 1).toNat = k + 1 by omega]
              have hst : atS l (k + 1) = if cc l k = true then (k : Int) else -1 := by
                rw [show atS l (k + 1) = if atS l k < 0 then (if cc l k = true then (k : Int) else -1) else atS l k from rfl, if_pos hat]
              have hm1 : atS l k = -1 := by rcases atS_rng l k with q | q <;> omega
              have u58 : ∀ x : UInt8, ((x.toNat : Int) = 58 ↔ x = 58) := fun x => ⟨fun h => UInt8.toNat_inj.1 (by show x.toNat = 58; omega), fun h => by rw [h]; rfl⟩
              have hcc := @cc_iff l k
              generalize l.getD k 0 = x at *
              generalize l.getD (k + 1) 0 = y at *
              by_cases hx : x = 58
              · by_cases hy : y = 58
                · rw [if_pos (hcc.2 ⟨hx, hy⟩)] at hst
                  simp [Tryd.f20, hsz, w1, hlt', hat, hs1, hs2, hx, hy, hst, u58]
                  omega
                · rw [if_neg (fun q => hy (hcc.1 q).2)] at hst
                  have hy' : ¬ (y.toNat : Int) = 58 := fun q => hy ((u58 y).1 q)
                  simp [Tryd.f20, hsz, w1, hlt', hat, hs1, hs2, hx, hy', hst, hm1]
                  omega
              · rw [if_neg (fun q => hx (hcc.1 q).1)] at hst
                have hx' : ¬ (x.toNat : Int) = 58 := fun q => hx ((u58 x).1 q)
                simp [Tryd.f20, hsz, w1, hlt', hat, hs1, hx', hst, hm1]
                omega
            · have he := atV_found (by omega) hat
              have hat' : ¬ atV l < 0 := by rw [← he]; exact hat
              rw [he]
              simp [Tryd.f20, hsz, w1, hlt', hat']
          · have hlt' : ¬ (k : Int) + 1 < l.length := by omega
            have he : atS l k = atV l := atV_end (by omega) hk (by omega) (.inr trivial)
            rw [he]
            simp [Tryd.f20, hsz, w1, hlt']
      intro _
      have g58 := gps58 hlen
      refine W.seqE hT mixed M_f20 (by kernel_rfl) ?_
      simp [Tryd.f20, g58]
      refine W.cut True [(0, .str (bs l)), (3, .ptr 0 0), (9, .own 1), (10, .bool (is6 l))] [.box 24 [.int .u64 0, .int .u64 0], .sl 1 22 (uRows (L6 l))] 173 ?_ ?_
      · cases hcut : cut2 l with
        | none =>
          have hat : atV l = -1 := by unfold atV; rw [hcut]
          have hi : is6 l = (rgr 58 16 65535 l).isSome := by unfold is6; rw [hcut]
          have hL : L6 l = rgL 58 16 65535 l := by unfold L6; rw [hcut]
          rw [hi, hL, hat]
          refine W.of_WE hT mixed M_f20 _ (by kernel_rfl) ?_
          simp [Tryd.f20]
        | some p =>
          obtain ⟨a, b⟩ := p
          obtain ⟨ha, hb, hab⟩ := cut2_parts hcut
          have hat : atV l = (a.length : Int) := by unfold atV; rw [hcut]
          have hi : is6 l = ((rgr 58 16 65535 a).isSome && (rgr 58 16 65535 b).isSome) := by unfold is6; rw [hcut]
          have hL : L6 l = rgL 58 16 65535 a ++ List.replicate (8 - ((rgL 58 16 65535 a).length + (rgL 58 16 65535 b).length)) 0 ++ rgL 58 16 65535 b := by unfold L6; rw [hcut]
          have hbl : b.length ≤ l.length := by rw [hb]; simp
          have ga := gps58 (l := a) (by omega)
          have gb := gps58 (l := b) (by omega)
          have x1 : (bs l).extract 0 a.length = bs a := by rw [bs_extract, List.drop_zero, Nat.sub_zero, ← ha]
          have x2 : (bs l).extract (a.length + 2) l.length = bs b := by rw [bs_extract, List.take_of_length_le (by simp), ← hb]
          have w2 : IntKind.i64.wrap ((a.length : Int) + 2) = (a.length : Int) + 2 := by rw [wr_i64 (by omega) (by omega)]
          have n2 : ((a.length : Int) + 2).toNat = a.length + 2 := by omega
          have hxl : ∀ {m : List UInt8}, m.length ≤ l.length → (rgL 58 16 65535 m).length ≤ 100000 := fun {m} hm => by
            unfold rgL
            cases h : rgr 58 16 65535 m with
            | none => simp
            | some L =>
              have h1 := (rgr_len h)
              simp only [Option.getD_some]; omega
          have la := hxl (m := a) (by omega)
          have lb := hxl hbl
          rw [hi, hL, hat]
          clear hi hL g58 hat
          generalize rgL 58 16 65535 a = X at *
          generalize rgL 58 16 65535 b = Y at *
          generalize (rgr 58 16 65535 a).isSome = i1 at *
          generalize (rgr 58 16 65535 b).isSome = i2 at *
          generalize a.length = n at *
          refine W.seqE hT mixed M_f20 (by kernel_rfl) ?_
          simp [Tryd.f20]
          refine W.cond true (by simp) (fun _ => ?_) (by simp)
          refine W.seqE hT mixed M_f20 (by kernel_rfl) ?_
          simp [hsz, x1, ga]
          refine ⟨by omega, ?_⟩
          refine W.seqE hT mixed M_f20 (by kernel_rfl) ?_
          simp [hsz, w2, n2, x2, gb]
          refine ⟨by omega, by omega, ?_⟩
          refine W.cut True [(0, .str (bs l)), (3, .ptr 0 0), (9, .own 1), (10, .bool (i1 && i2)), (11, .own 1), (13, .own 2)] [.box 24 [.int .u64 0, .int .u64 0], .sl 1 22 (uRows X), .sl 1 22 (uRows Y)] 173 ?_ ?_
          · refine W.of_WE hT mixed M_f20 _ (by kernel_rfl) ?_
            cases i1 <;> simp [Tryd.f20]
          intro _
          refine W.cut True [(0, .str (bs l)), (3, .ptr 0 0), (9, .own 1), (10, .bool (i1 && i2)), (13, .own 2)] [.box 24 [.int .u64 0, .int .u64 0], .sl 1 22 (uRows (X ++ List.replicate (8 - (X.length + Y.length)) 0)), .sl 1 22 (uRows Y)] 173 ?_ ?_
          · have hX := uRows_len X
            have hY := uRows_len Y
            have w3 : IntKind.i64.wrap ((X.length : Int) + (Y.length : Int)) = (X.length : Int) + (Y.length : Int) := by rw [wr_i64 (by omega) (by omega)]
            refine W.seqE hT mixed M_f20 (by kernel_rfl) ?_
            simp [Tryd.f20, hX, hY, w3]
            refine W.block (W.for (fun _ => True) (fun k => [(0, .str (bs l)), (3, .ptr 0 0), (9, .own 1), (10, .bool (i1 && i2)), (13, .own 2), (15, .int .i64 ((X.length : Int) + (Y.length : Int) + (k : Int)))])
              (fun k => [.box 24 [.int .u64 0, .int .u64 0], .sl 1 22 (uRows (X ++ List.replicate k 0)), .sl 1 22 (uRows Y)]) 173 (8 - (X.length + Y.length)) trivial ?_ ?_)
            · simp
            · intro k hk _
              refine W.of_WE hT mixed M_f20 _ (by kernel_rfl) ?_
              by_cases hlt : k < 8 - (X.length + Y.length)
              · have w1 : IntKind.i64.wrap ((X.length : Int) + (Y.length : Int) + (k : Int) + 1) = (X.length : Int) + (Y.length : Int) + (k : Int) + 1 := by rw [wr_i64 (by omega) (by omega)]
                have h8 : (X.length : Int) + (Y.length : Int) + (k : Int) < 8 := by omega
                have ap := uRows_app1 (X ++ List.replicate k 0) 0
                rw [List.append_assoc, ← List.replicate_succ'] at ap
                have hr : (uRows (X ++ List.replicate k 0)).length = X.length + k := by rw [uRows_len]; simp
                simp only [Int.natCast_zero] at ap
                generalize uRows (X ++ List.replicate k 0) = R1 at *
                generalize uRows (X ++ List.replicate (k + 1) 0) = R2 at *
                simp [Tryd.f20, w1, h8, ap, hr]
                omega
              · have h8 : ¬ (X.length : Int) + (Y.length : Int) + (k : Int) < 8 := by omega
                obtain rfl : k = 8 - (X.length + Y.length) := by omega
                simp [Tryd.f20, h8]
          intro _
          have ap2 : uRows (X ++ List.replicate (8 - (X.length + Y.length)) 0) ++ uRows Y = uRows (X ++ List.replicate (8 - (X.length + Y.length)) 0 ++ Y) := by
            unfold uRows; rw [← List.map_append]
          have hr : (uRows (X ++ List.replicate (8 - (X.length + Y.length)) 0)).length ≤ 100008 := by rw [uRows_len]; simp; omega
          have hY := uRows_len Y
          generalize uRows (X ++ List.replicate (8 - (X.length + Y.length)) 0) = R1 at *
          rw [List.append_assoc] at ap2
          rw [← ap2]
          generalize uRows Y = R2 at *
          refine W.of_WE hT mixed M_f20 _ (by kernel_rfl) ?_
          simp [Tryd.f20, hY]
          omega
      intro _
      have hle : ∀ x ∈ L6 l, x < 65536 := by
        have h1 : ∀ m : List UInt8, ∀ x ∈ rgL 58 16 65535 m, x ≤ 65535 := fun m => rgL_le (by omega) (by omega) (by omega) (by omega) m
        intro x hx
        unfold L6 at hx
        split at hx
        · rename_i a b _
          rw [List.mem_append, List.mem_append, List.mem_replicate] at hx
          rcases hx with (hx | hx) | hx
          · have := h1 a x hx; omega
          · omega
          · have := h1 b x hx; omega
        · have := h1 l x hx; omega
      have hln := uRows_len (L6 l)
      generalize is6 l = i6 at *
      generalize L6 l = L at *
      by_cases hbad : i6 = true ∧ L.length = 8
      · obtain ⟨rfl, h8⟩ := hbad
        obtain ⟨x0, x1, x2, x3, x4, x5, x6, x7, rfl⟩ : ∃ x0 x1 x2 x3 x4 x5 x6 x7, L = [x0, x1, x2, x3, x4, x5, x6, x7] := by
          match L, h8 with
          | [x0, x1, x2, x3, x4, x5, x6, x7], _ => exact ⟨x0, x1, x2, x3, x4, x5, x6, x7, rfl⟩
        have h0 := hle x0 (by simp)
        have h1 := hle x1 (by simp)
        have h2 := hle x2 (by simp)
        have h3 := hle x3 (by simp)
        have h4 := hle x4 (by simp)
        have h5 := hle x5 (by simp)
        have h6 := hle x6 (by simp)
        have h7 := hle x7 (by simp)
        rw [fold8' h0 h1 h2 h3 h4 h5 h6 h7]
        have v1 := n4_wrap h0 h1 h2 h3
        have v2 := n4_wrap h4 h5 h6 h7
        have hn1 := n4_lt h0 h1 h2 h3
        have hn2 := n4_lt h4 h5 h6 h7
        have hu : uRows [x0, x1, x2, x3, x4, x5, x6, x7] = [[.int .u64 (x0 : Int)], [.int .u64 (x1 : Int)], [.int .u64 (x2 : Int)], [.int .u64 (x3 : Int)], [.int .u64 (x4 : Int)], [.int .u64 (x5 : Int)], [.int .u64 (x6 : Int)], [.int .u64 (x7 : Int)]] := rfl
        generalize n4 x0 x1 x2 x3 = n1 at *
        generalize n4 x4 x5 x6 x7 = n2 at *
        clear hle h0 h1 h2 h3 h4 h5 h6 h7 hra hra6
        refine W.cut True [(0, .str (bs l)), (3, .ptr 0 0), (9, .own 1)] [.box 24 [.int .u64 0, .int .u64 0], .sl 1 22 (uRows [x0, x1, x2, x3, x4, x5, x6, x7])] 173 ?_ ?_
        · refine W.of_WE hT mixed M_f20 _ (by kernel_rfl) ?_
          simp [Tryd.f20, hln]
        intro _
        refine W.cut True [(0, .str (bs l)), (3, .ptr 0 0), (16, .ptr 1 0)] [.box 24 [.int .u64 0, .int .u64 0], .box 24 [.int .u64 (n1 : Int), .int .u64 (n2 : Int)]] 173 ?_ ?_
        · rw [hu]
          refine W.of_WE hT mixed M_f20 _ (by kernel_rfl) ?_
          simp [Tryd.f20, v1, v2]
        intro _
        have hat := addrT_at (f := 6) hn1 hn2
        rw [if_pos (by unfold cAddr; simp)] at hat
        rw [show (6 : Int).toNat = 6 from rfl] at hat
        refine W.seqE hT mixed M_f20 (by kernel_rfl) ?_
        simp [Tryd.f20, hat]
        refine W.of_WE hT mixed M_f20 _ (by kernel_rfl) ?_
        by_cases hx : addrT 6 n1 n2 = l
        · simp [Tryd.f20, bs_toList, hx, paV]
        · simp [Tryd.f20, bs_toList, hx, paV]
      · have hr : (if i6 = true ∧ L.length = 8 ∧ addrT 6 (L.foldl putN (0, 0)).1 (L.foldl putN (0, 0)).2 = l then some (6, L.foldl putN (0, 0)) else none) = none := if_neg (fun q => hbad ⟨q.1, q.2.1⟩)
        rw [hr]
        refine W.cut False [] [] 173 ?_ (fun h => h.elim)
        refine W.of_WE hT mixed M_f20 _ (by kernel_rfl) ?_
        cases i6 with
        | false => simp [Tryd.f20, paV]
        | true =>
          have h8 : ¬ L.length = 8 := fun q => hbad ⟨rfl, q⟩
          simp [Tryd.f20, hln, show ¬ (L.length : Int) = 8 by omega, h8, paV]
    · cases hh
  · cases hh

end Go.Proofs.YtbnjijffkjcmcaaDoor.AL
namespace Go.Proofs.YtbnjijffkjcmcaaDoor.AL
open Go
attribute [local simp] qf cv qbin ibin sbin qun retPost rvOk ctV ctPost marksOk retV resAll resOf V.lt ltL V.ren renL V.exp V.exp1 cleanL V.clean closedL V.closed V.cells V.one V.tree
  loadV cellsAt isNC nilQ isSlD isIfD slNew ownRows ownCells V.isOwn slStore srcO qlook mlook mget mstr zval qnone qmake mput lmap isAggD placesOf fillV putCells lstore bound seqParts V.sh shL Blk.sh newV V.ok peqs peq srcRows qbytes byteSl appOk mmV mmR hidE V.fz fzL Blk.fz fzOk and_assoc
attribute [-simp] Int.not_le Int.not_lt Nat.not_le Nat.not_lt
/-! The reference's strings of prefixes and systems. -/
theorem chk_at {f n : Int} {h l : Nat} (hh : h < 18446744073709551616) (hl : l < 18446744073709551616) : SCheck [.agg [.int .u8 f, .int .u64 (h : Int), .int .u64 (l : Int), .int .i64 n]] = some ⟨.int .i64 (chkP f h l n), []⟩ := by
  simp only [SCheck]
  rw [if_pos ⟨by omega, by omega, by omega, by omega⟩]
theorem rnum_bd {b lim : Nat} (hb : 1 ≤ b) (hb' : b ≤ 16) (l : List UInt8) : (rnum b lim l).1 < 1099511627776 := by
  unfold rnum
  split
  · simp
  · rename_i h
    split
    · rename_i n hn
      have := nvF_bd (k := l.length) hb hb' (l := l) (by omega) (by rw [List.take_length, hn]; rfl)
      unfold nvF at this
      rw [List.take_length, hn] at this
      exact this
    · simp
def M_f22 : Md := fun i => some #[]
@[simp] theorem M_f22_eq {i : Nat} : M_f22 i = (some #[]) := rfl
theorem runs_ref01_Text : ∀ args r, STx args = some r → Runs Tryd.prog 22 args r := by
  intro args r hh
  unfold STx ifC at hh
  split at hh
  · rename_i f h0 l0 n
    split at hh
    · rename_i hin
      obtain ⟨a1, a2, a3, a4⟩ := hin
      obtain ⟨h, rfl⟩ := Int.eq_ofNat_of_zero_le a1
      obtain ⟨l, rfl⟩ := Int.eq_ofNat_of_zero_le a3
      cases hh
      rw [Int.toNat_natCast, Int.toNat_natCast]
      have hT : (((T0.add 43 SCheck).add 18 SAddrT).add 53 SDg).ok Tryd.prog := Tab.add_ok (Tab.add_ok (Tab.add_ok (T0_ok _) runs_ref01_Check) runs_ref01_AddrText) runs_ref01_Digits
      have hck := chk_at (f := f) (n := n) (h := h) (l := l) (by omega) (by omega)
      have hat := addrT_at (f := f) (h := h) (l := l) (by omega) (by omega)
      refine Runs.of_body Tryd.func22 (by decide) rfl (by simp [Tryd.f22]) ?_
      by_cases hc : chkP f h l n = 0
      · obtain ⟨hca, j, rfl, hj⟩ := chk_addr hc
        have hit := dg_at (n := j) (b := 10) (by omega) (.inl rfl)
        rw [show ((10 : Nat) : Int) = 10 from rfl] at hit
        have hlen := addrT_len f.toNat h l
        have hdl : (dgs 10 j).length ≤ 3 := dgs_len (by omega) 2 j (by omega) (by omega)
        have hw : IntKind.u64.wrap (j : Int) = (j : Int) := wr_u64 (by omega) (by omega)
        rw [if_pos hc, Int.toNat_natCast]
        rw [if_pos hca] at hat
        rw [hc] at hck
        have e : ppT f.toNat h l j = addrT f.toNat h l ++ 47 :: dgs 10 j := rfl
        rw [e]
        generalize addrT f.toNat h l = X at *
        generalize dgs 10 j = Y at *
        have hc1 : bs X ++ ⟨#[47]⟩ = bs (X ++ [47]) := bs_append X [47]
        have hc2 : bs (X ++ [47]) ++ bs Y = bs (X ++ 47 :: Y) := by rw [bs_append]; simp
        have hz : (⟨#[47]⟩ : ByteArray).size = 1 := rfl
        have hz1 : ((bs X).size : Int) + 1 ≤ 9223372036854775807 := by rw [bs_size]; omega
        have hz2 : ((bs (X ++ [47])).size : Int) + (bs Y).size ≤ 9223372036854775807 := by rw [bs_size, bs_size]; simp; omega
        refine W.of_WE hT mixed M_f22 _ (by kernel_rfl) ?_
        simp [Tryd.f22, hck, hat, hit, hw, hc1, hc2, hz, hz1, hz2]
      · rw [if_neg hc]
        generalize chkP f h l n = ck at *
        refine W.of_WE hT mixed M_f22 _ (by kernel_rfl) ?_
        simp [Tryd.f22, hck, hc]
        rfl
    · cases hh
  · cases hh
theorem runs_ref01_AsText : ∀ args r, SAsT args = some r → Runs Tryd.prog 28 args r := by
  intro args r hh
  unfold SAsT ifC at hh
  split at hh
  · rename_i a
    split at hh
    · rename_i hin
      obtain ⟨n, rfl⟩ := Int.eq_ofNat_of_zero_le hin.1
      cases hh
      rw [Int.toNat_natCast]
      have hT : (T0.add 53 SDg).ok Tryd.prog := Tab.add_ok (T0_ok _) runs_ref01_Digits
      have hf := dg_at (n := n) (b := 10) (by omega) (.inl rfl)
      rw [show ((10 : Nat) : Int) = 10 from rfl] at hf
      have hw1 : IntKind.u64.wrap (n : Int) = n := wr_u64 (by omega) (by omega)
      have hdl : (dgs 10 n).length ≤ 10 := dgs_len (by omega) 9 n (by omega) (by omega)
      have e : asT n = [65, 83] ++ dgs 10 n := rfl
      rw [e]
      generalize dgs 10 n = Y at *
      have hc2 : (⟨#[65, 83]⟩ : ByteArray) ++ bs Y = bs ([65, 83] ++ Y) := bs_append [65, 83] Y
      have hz : (⟨#[65, 83]⟩ : ByteArray).size = 2 := rfl
      have hz2 : (2 : Int) + (bs Y).size ≤ 9223372036854775807 := by rw [bs_size]; omega
      generalize [65, 83] ++ Y = Z at *
      refine Runs.of_body Tryd.func28 (by decide) rfl (by simp [Tryd.f28]) ?_
      refine W.of_WE hT mixed M0 _ (by kernel_rfl) ?_
      simp [Tryd.f28, hf, hw1, hc2, hz, hz2]
    · cases hh
  · cases hh
def M_f26 : Md := fun i => some #[]
@[simp] theorem M_f26_eq {i : Nat} : M_f26 i = (some #[]) := rfl
theorem runs_ref01_AsParse : ∀ args r, SAsP args = some r → Runs Tryd.prog 26 args r := by
  intro args r hh
  unfold SAsP ifC at hh
  split at hh
  · rename_i s0
    obtain ⟨l, rfl⟩ := bs_ex s0
    rw [bs_size, bs_data] at hh
    split at hh
    · rename_i hlen
      cases hh
      rw [← ras_eq]
      have hsz := bs_size l
      have hT : (T0.add 64 SNm).ok Tryd.prog := Tab.add_ok (T0_ok _) runs_ref01_Number
      have hn := nm_at (l := l.drop 2) (b := 10) (lim := 4294967295) (.inl rfl) (by omega) (by simp; omega)
      rw [show ((10 : Nat) : Int) = 10 from rfl, show ((4294967295 : Nat) : Int) = 4294967295 from rfl] at hn
      refine Runs.of_body Tryd.func26 (by decide) rfl (by simp [Tryd.f26]) ?_
      refine W.seqE hT mixed M_f26 (by kernel_rfl) ?_
      simp [Tryd.f26]
      have x1 : (bs l).extract 0 2 = bs (l.take 2) := by rw [bs_extract]; rfl
      have x2 : (bs l).extract 2 l.length = bs (l.drop 2) := by rw [bs_extract, List.take_of_length_le (by simp)]
      have t2 : ByteArray.toList ⟨#[65, 83]⟩ = [65, 83] := bs_toList [65, 83]
      by_cases h2 : l.length < 2
      · have hr : ras l = none := by unfold ras; rw [if_pos (.inl h2)]
        rw [hr]
        refine W.cut False [] [] 24 ?_ (fun h => h.elim)
        refine W.of_WE hT mixed M_f26 _ (by kernel_rfl) ?_
        simp [Tryd.f26, hsz, show (l.length : Int) < 2 by omega, asV]
      · by_cases h3 : l.take 2 = [65, 83]
        · have hr : ras l = if (rnum 10 4294967295 (l.drop 2)).2 = true then some (rnum 10 4294967295 (l.drop 2)).1 else none := by
            unfold ras; rw [if_neg (fun q => q.elim h2 (fun e => e h3))]
          rw [hr]
          refine W.cut True [(0, .str (bs l))] [] 24 ?_ ?_
          · refine W.of_WE hT mixed M_f26 _ (by kernel_rfl) ?_
            have e65 : bs [65, 83] = (⟨#[65, 83]⟩ : ByteArray) := rfl
            simp [Tryd.f26, hsz, show ¬ (l.length : Int) < 2 by omega, x1, h3, bs_toList, t2]
            trace_state
            omega
          intro _
          have hbd : (rnum 10 4294967295 (l.drop 2)).2 = true → (rnum 10 4294967295 (l.drop 2)).1 ≤ 4294967295 := fun q => ((rnum_iff (b := 10) (lim := 4294967295) (n := (rnum 10 4294967295 (l.drop 2)).1) (by omega) (by omega) (by omega) (by omega)).1 (Prod.ext rfl q)).2
          generalize (rnum 10 4294967295 (l.drop 2)).1 = n at *
          generalize (rnum 10 4294967295 (l.drop 2)).2 = i at *
          refine W.seqE hT mixed M_f26 (by kernel_rfl) ?_
          simp [Tryd.f26, hsz, x2, hn]
          refine ⟨by omega, ?_⟩
          refine W.of_WE hT mixed M_f26 _ (by kernel_rfl) ?_
          cases i with
          | false => simp [Tryd.f26, asV]
          | true =>
            have := hbd rfl
            have hw : IntKind.u32.wrap (n : Int) = n := by rw [wrap_u32]; omega
            simp [Tryd.f26, asV, hw]
        · have hr : ras l = none := by unfold ras; rw [if_pos (.inr h3)]
          rw [hr]
          refine W.cut False [] [] 24 ?_ (fun h => h.elim)
          refine W.of_WE hT mixed M_f26 _ (by kernel_rfl) ?_
          simp [Tryd.f26, hsz, show ¬ (l.length : Int) < 2 by omega, x1, h3, bs_toList, t2, asV]
          omega
    · cases hh
  · cases hh
def M_f24 : Md := fun i => some #[]
@[simp] theorem M_f24_eq {i : Nat} : M_f24 i = (some #[]) := rfl
theorem runs_ref01_Parse : ∀ args r, SPf args = some r → Runs Tryd.prog 24 args r := by
  intro args r hh
  unfold SPf ifC at hh
  split at hh
  · rename_i s0
    obtain ⟨l, rfl⟩ := bs_ex s0
    rw [bs_size, bs_data] at hh
    split at hh
    · rename_i hlen
      cases hh
      rw [← rp_eq]
      have hT : ((((T0.add 63 SPrt).add 20 SAP).add 64 SNm).add 43 SCheck).ok Tryd.prog := Tab.add_ok (Tab.add_ok (Tab.add_ok (Tab.add_ok (T0_ok _) runs_ref01_Parts) runs_ref01_AddrParse) runs_ref01_Number) runs_ref01_Check
      have hp := prt_at (l := l) 47 hlen
      rw [show ((47 : UInt8).toNat : Int) = 47 from rfl] at hp
      have hpp := spl_part 47 l
      have hbl := bRows_len (spl 47 l)
      refine Runs.of_body Tryd.func24 (by decide) rfl (by simp [Tryd.f24]) ?_
      refine W.seqE hT mixed M_f24 (by kernel_rfl) ?_
      simp [Tryd.f24]
      refine W.seqE hT mixed M_f24 (by kernel_rfl) ?_
      simp [hp]
      by_cases h2 : (spl 47 l).length = 2
      · obtain ⟨x, y, hxy⟩ : ∃ x y, spl 47 l = [x, y] := by
          match h : spl 47 l, h2 with
          | [x, y], _ => exact ⟨x, y, rfl⟩
        have hr : rp l = rpX x y (ra x) := by unfold rp; rw [hxy]
        rw [hr, ra_eq]
        have hx := hpp x (by rw [hxy]; simp)
        have hy := hpp y (by rw [hxy]; simp)
        have ha := ap_at (l := x) (by omega)
        have hn := nm_at (l := y) (b := 10) (lim := 128) (.inl rfl) (by omega) (by omega)
        rw [show ((10 : Nat) : Int) = 10 from rfl, show ((128 : Nat) : Int) = 128 from rfl] at hn
        have hbr : bRows (spl 47 l) = [[.str (bs x)], [.str (bs y)]] := by rw [hxy]; rfl
        rw [hbr]
        have hbd := rnum_bd (b := 10) (lim := 128) (by omega) (by omega) y
        refine W.cut True [(2, .ptr 0 0), (4, .own 1)] [.box 26 [.int .u8 0, .int .u64 0, .int .u64 0, .int .i64 0], .sl 1 9 [[.str (bs x)], [.str (bs y)]]] 50 ?_ ?_
        · refine W.of_WE hT mixed M_f24 _ (by kernel_rfl) ?_
          simp [Tryd.f24]
        intro _
        have hb : ∀ f h l, pa x = some (f, h, l) → f < 256 ∧ h < 18446744073709551616 ∧ l < 18446744073709551616 := by
          intro f h l e
          rcases (pa_iff.1 e).1 with ⟨rfl, q1, q2⟩ | ⟨rfl, rfl, q2⟩
          · exact ⟨by omega, q1, q2⟩
          · exact ⟨by omega, by omega, by omega⟩
        generalize hpa : pa x = o at *
        cases hnn : rnum 10 128 y with
        | mk n i =>
        rw [hnn] at hn hbd
        have hw : IntKind.i64.wrap (n : Int) = n := wr_i64 (by omega) (by simp only at hbd; omega)
        cases o with
        | none =>
          have e1 : rpX x y none = none := rfl
          rw [e1]
          refine W.seqE hT mixed M_f24 (by kernel_rfl) ?_
          simp [Tryd.f24, ha, paV]
          refine W.seqE hT mixed M_f24 (by kernel_rfl) ?_
          simp [hn]
          refine W.seqE hT mixed M_f24 (by kernel_rfl) ?_
          simp [hw]
          refine W.of_WE hT mixed M_f24 _ (by kernel_rfl) ?_
          simp [Tryd.f24, ppV]
        | some v =>
          obtain ⟨f, h, l2⟩ := v
          obtain ⟨b1, b2, b3⟩ := hb f h l2 rfl
          have hck := chk_at (f := f) (n := n) b2 b3
          have e1 : rpX x y (some (f, h, l2)) = if i = true ∧ chkP f h l2 n = 0 then some (f, h, l2, n) else none := by unfold rpX; rw [hnn]
          rw [e1]
          generalize chkP f h l2 n = ck at *
          refine W.seqE hT mixed M_f24 (by kernel_rfl) ?_
          simp [Tryd.f24, ha, paV]
          refine W.seqE hT mixed M_f24 (by kernel_rfl) ?_
          simp [hn]
          refine W.seqE hT mixed M_f24 (by kernel_rfl) ?_
          simp [hw]
          refine W.of_WE hT mixed M_f24 _ (by kernel_rfl) ?_
          cases i with
          | false => simp [Tryd.f24, ppV]
          | true =>
            by_cases hz : ck = 0
            · simp [Tryd.f24, hck, hz, ppV]
            · simp [Tryd.f24, hck, hz, ppV]
      · have hr : rp l = none := by
          unfold rp
          split
          · rename_i e; rw [e] at h2; simp at h2
          · rfl
        rw [hr]
        refine W.cut False [] [] 50 ?_ (fun h => h.elim)
        refine W.of_WE hT mixed M_f24 _ (by kernel_rfl) ?_
        simp [Tryd.f24, hbl, h2, show ¬ ((spl 47 l).length : Int) = 2 by omega, ppV]
    · cases hh
  · cases hh

end Go.Proofs.YtbnjijffkjcmcaaDoor.AL
namespace Go.Proofs.YtbnjijffkjcmcaaDoor.AL
open Go
/-! Covering is an order. -/
theorem div_mul_div {x : Int} {a b : Nat} (h : a ≤ b) : x / 2 ^ a * 2 ^ a / 2 ^ b = x / 2 ^ b := by
  obtain ⟨d, rfl⟩ : ∃ d, b = a + d := ⟨b - a, by omega⟩
  have hp := ipow_pos a
  rw [ipow_add, ← Int.ediv_ediv_of_nonneg (Int.le_of_lt hp), ← Int.ediv_ediv_of_nonneg (Int.le_of_lt hp), Int.mul_ediv_cancel _ (by omega)]
theorem cutA_cut {h l : Int} {a b : Nat} (hin : inA h l) (hab : a ≤ b) : cutA (cutA h l a).1 (cutA h l a).2 b = cutA h l b := by
  have r1 := cutA_rng hin a
  have r2 := cutA_rng (show inA (cutA h l a).1 (cutA h l a).2 from r1) b
  have r3 := cutA_rng hin b
  refine numA_inj ⟨r2.2.2.1, r2.2.2.2⟩ ⟨r3.2.2.1, r3.2.2.2⟩ ?_
  rw [cutA_num r1.2.2.1 r1.2.2.2, cutA_num hin.2.2.1 hin.2.2.2, div_mul_div hab, cutA_num hin.2.2.1 hin.2.2.2]
theorem cov_iff {f h l n f' h' l' n' : Int} : covP f h l n f' h' l' n' = true ↔ chkP f h l n = 0 ∧ chkP f' h' l' n' = 0 ∧ f = f' ∧ n ≤ n' ∧ cutA h' l' (widN f - n.toNat) = (h, l) := by
  unfold covP
  simp only [Bool.and_eq_true, decide_eq_true_eq]
theorem cov_self (f h l n : Int) : covP f h l n f h l n = decide (chkP f h l n = 0) := by
  rw [Bool.eq_iff_iff, cov_iff, decide_eq_true_eq]
  constructor
  · intro h; exact h.1
  · intro hc
    obtain ⟨j, rfl, _, _, hcut⟩ := chk_zero hc
    exact ⟨hc, hc, rfl, Int.le_refl _, by rw [Int.toNat_natCast]; exact hcut⟩
theorem cov_anti {f h l n f' h' l' n' : Int} (h1 : covP f h l n f' h' l' n' = true) (h2 : covP f' h' l' n' f h l n = true) : f = f' ∧ h = h' ∧ l = l' ∧ n = n' := by
  obtain ⟨c1, c2, rfl, e1, k1⟩ := cov_iff.1 h1
  obtain ⟨_, _, _, e2, k2⟩ := cov_iff.1 h2
  obtain rfl : n = n' := by omega
  obtain ⟨j, rfl, _, _, hcut⟩ := chk_zero c2
  rw [Int.toNat_natCast, hcut] at k1
  simp only [Prod.mk.injEq] at k1
  exact ⟨rfl, k1.1.symm, k1.2.symm, rfl⟩
theorem cov_trans {f h l n f' h' l' n' f2 h2 l2 n2 : Int} (hin : inA h2 l2) (k1 : covP f h l n f' h' l' n' = true) (k2 : covP f' h' l' n' f2 h2 l2 n2 = true) : covP f h l n f2 h2 l2 n2 = true := by
  obtain ⟨c1, c2, rfl, e1, k1⟩ := cov_iff.1 k1
  obtain ⟨_, c3, rfl, e2, k2⟩ := cov_iff.1 k2
  refine cov_iff.2 ⟨c1, c3, rfl, by omega, ?_⟩
  have := cutA_cut hin (a := widN f - n'.toNat) (b := widN f - n.toNat) (by omega)
  rw [k2] at this
  rw [← this]
  exact k1
theorem cov_tree' {f h l n f' h' l' n' f2 h2 l2 n2 : Int} (hin : inA h2 l2) (k1 : covP f h l n f2 h2 l2 n2 = true) (k2 : covP f' h' l' n' f2 h2 l2 n2 = true) (hn : n ≤ n') : covP f h l n f' h' l' n' = true := by
  obtain ⟨c1, c3, rfl, e1, k1⟩ := cov_iff.1 k1
  obtain ⟨c2, _, rfl, e2, k2⟩ := cov_iff.1 k2
  refine cov_iff.2 ⟨c1, c2, rfl, hn, ?_⟩
  have := cutA_cut hin (a := widN f' - n'.toNat) (b := widN f' - n.toNat) (by omega)
  rw [k2, k1] at this
  exact this
theorem cov_tree {f h l n f' h' l' n' f2 h2 l2 n2 : Int} (hin : inA h2 l2) (k1 : covP f h l n f2 h2 l2 n2 = true) (k2 : covP f' h' l' n' f2 h2 l2 n2 = true) : covP f h l n f' h' l' n' = true ∨ covP f' h' l' n' f h l n = true := by
  rcases Int.le_total n n' with hn | hn
  · exact .inl (cov_tree' hin k1 k2 hn)
  · exact .inr (cov_tree' hin k2 k1 hn)
end Go.Proofs.YtbnjijffkjcmcaaDoor.AL
namespace Go.Proofs.YtbnjijffkjcmcaaDoor.AL
open Go
attribute [local simp] qf cv qbin ibin sbin qun retPost rvOk ctV ctPost marksOk retV resAll resOf V.lt ltL V.ren renL V.exp V.exp1 cleanL V.clean closedL V.closed V.cells V.one V.tree
  loadV cellsAt isNC nilQ isSlD isIfD slNew ownRows ownCells V.isOwn slStore srcO qlook mlook mget mstr zval qnone qmake mput lmap isAggD placesOf fillV putCells lstore bound seqParts V.sh shL Blk.sh newV V.ok peqs peq srcRows qbytes byteSl appOk mmV mmR hidE V.fz fzL Blk.fz fzOk and_assoc
attribute [-simp] Int.not_le Int.not_lt Nat.not_le Nat.not_lt
def M_f3 : Md := fun i => some #[]
@[simp] theorem M_f3_eq {i : Nat} : M_f3 i = (some #[]) := rfl
theorem numberOrder_runs : ∀ As, ArgsV Tryd.prog Tryd.f3.params.toList [[.int .u8, .int .u64, .int .u64, .int .i64], [.int .u8, .int .u64, .int .u64, .int .i64], [.int .u8, .int .u64, .int .u64, .int .i64]] As → Runs Tryd.prog 3 As ⟨.bool true, []⟩ := by
  intro As h
  simp [Tryd.f3, ArgsV, LSh, VSh, argV] at h
  obtain ⟨_, _, rfl, ⟨_, _, rfl, ⟨f1, rfl, hf1⟩, _, _, rfl, ⟨h1, rfl, hh1⟩, _, _, rfl, ⟨l1, rfl, hl1⟩, _, rfl, n1, rfl, hn1⟩, _, _, rfl, ⟨_, _, rfl, ⟨f2, rfl, hf2⟩, _, _, rfl, ⟨h2, rfl, hh2⟩, _, _, rfl, ⟨l2, rfl, hl2⟩, _, rfl, n2, rfl, hn2⟩, _, rfl, _, _, rfl, ⟨f3, rfl, hf3⟩, _, _, rfl, ⟨h3, rfl, hh3⟩, _, _, rfl, ⟨l3, rfl, hl3⟩, _, rfl, n3, rfl, hn3⟩ := h
  have i1 : inA h1 l1 := ⟨(u64_rng hh1).1, (u64_rng hh1).2, (u64_rng hl1).1, (u64_rng hl1).2⟩
  have i2 : inA h2 l2 := ⟨(u64_rng hh2).1, (u64_rng hh2).2, (u64_rng hl2).1, (u64_rng hl2).2⟩
  have i3 : inA h3 l3 := ⟨(u64_rng hh3).1, (u64_rng hh3).2, (u64_rng hl3).1, (u64_rng hl3).2⟩
  have hT : (((T0.add 14 SCheck).add 15 SCovers).add 16 SAlive1).ok Tryd.prog := Tab.add_ok (Tab.add_ok (Tab.add_ok (T0_ok _) runs_number_Check) runs_number_Covers) runs_alive1
  have cv : ∀ {f h l n f' h' l' n' : Int}, inA h l → inA h' l' → SCovers [.agg [.int .u8 f, .int .u64 h, .int .u64 l, .int .i64 n], .agg [.int .u8 f', .int .u64 h', .int .u64 l', .int .i64 n']] = some ⟨.bool (covP f h l n f' h' l' n'), []⟩ := fun k1 k2 => by
    simp only [SCovers]; rw [if_pos ⟨k1, k2⟩]
  have hck : SCheck [.agg [.int .u8 f1, .int .u64 h1, .int .u64 l1, .int .i64 n1]] = some ⟨.int .i64 (chkP f1 h1 l1 n1), []⟩ := by simp only [SCheck]; rw [if_pos i1]
  have c11 := cv (f := f1) (n := n1) (f' := f1) (n' := n1) i1 i1
  have c12 := cv (f := f1) (n := n1) (f' := f2) (n' := n2) i1 i2
  have c21 := cv (f := f2) (n := n2) (f' := f1) (n' := n1) i2 i1
  have c23 := cv (f := f2) (n := n2) (f' := f3) (n' := n3) i2 i3
  have c13 := cv (f := f1) (n := n1) (f' := f3) (n' := n3) i1 i3
  have p11 := cov_self f1 h1 l1 n1
  have pan := fun a b => cov_anti (f := f1) (h := h1) (l := l1) (n := n1) (f' := f2) (h' := h2) (l' := l2) (n' := n2) a b
  have ptr := fun a b => cov_trans (f := f1) (h := h1) (l := l1) (n := n1) (f' := f2) (h' := h2) (l' := l2) (n' := n2) (f2 := f3) (n2 := n3) i3 a b
  have pte := fun a b => cov_tree (f := f1) (h := h1) (l := l1) (n := n1) (f' := f2) (h' := h2) (l' := l2) (n' := n2) (f2 := f3) (n2 := n3) i3 a b
  generalize covP f1 h1 l1 n1 f1 h1 l1 n1 = C11 at *
  generalize covP f1 h1 l1 n1 f2 h2 l2 n2 = C12 at *
  generalize covP f2 h2 l2 n2 f1 h1 l1 n1 = C21 at *
  generalize covP f2 h2 l2 n2 f3 h3 l3 n3 = C23 at *
  generalize covP f1 h1 l1 n1 f3 h3 l3 n3 = C13 at *
  generalize chkP f1 h1 l1 n1 = CK at *
  refine Runs.of_body Tryd.func3 (by decide) rfl (by simp [Tryd.f3]) ?_
  refine W.seqE hT mixed M_f3 (by kernel_rfl) ?_
  simp [Tryd.f3]
  refine W.seqE hT mixed M_f3 (by kernel_rfl) ?_
  simp [hck]
  refine W.cut True [(3, .ptr 0 0), (4, .ptr 1 0), (5, .ptr 2 0), (8, .bool true)] [.box 26 [.int .u8 f1, .int .u64 h1, .int .u64 l1, .int .i64 n1], .box 26 [.int .u8 f2, .int .u64 h2, .int .u64 l2, .int .i64 n2], .box 26 [.int .u8 f3, .int .u64 h3, .int .u64 l3, .int .i64 n3]] 83 ?_ ?_
  · refine W.of_WE hT mixed M_f3 _ (by kernel_rfl) ?_
    simp [c11, p11]
  intro _
  refine W.cut True [(3, .ptr 0 0), (4, .ptr 1 0), (5, .ptr 2 0), (8, .bool true), (9, .bool true)] [.box 26 [.int .u8 f1, .int .u64 h1, .int .u64 l1, .int .i64 n1], .box 26 [.int .u8 f2, .int .u64 h2, .int .u64 l2, .int .i64 n2], .box 26 [.int .u8 f3, .int .u64 h3, .int .u64 l3, .int .i64 n3]] 83 ?_ ?_
  · refine W.of_WE hT mixed M_f3 _ (by kernel_rfl) ?_
    cases C12 with
    | false => simp [c12, c21]
    | true =>
      cases C21 with
      | false => simp [c12, c21]
      | true =>
        obtain ⟨rfl, rfl, rfl, rfl⟩ := pan rfl rfl
        simp [c12, c21]
  intro _
  refine W.cut True [(3, .ptr 0 0), (4, .ptr 1 0), (5, .ptr 2 0), (8, .bool true), (9, .bool true), (10, .bool true)] [.box 26 [.int .u8 f1, .int .u64 h1, .int .u64 l1, .int .i64 n1], .box 26 [.int .u8 f2, .int .u64 h2, .int .u64 l2, .int .i64 n2], .box 26 [.int .u8 f3, .int .u64 h3, .int .u64 l3, .int .i64 n3]] 83 ?_ ?_
  · refine W.of_WE hT mixed M_f3 _ (by kernel_rfl) ?_
    cases C12 with
    | false => simp [c12, c23, c13]
    | true =>
      cases C23 with
      | false => simp [c12, c23, c13]
      | true => simp [c12, c23, c13, ptr rfl rfl]
  intro _
  refine W.cut True [(8, .bool true), (9, .bool true), (10, .bool true), (11, .bool true)] [] 83 ?_ ?_
  · refine W.of_WE hT mixed M_f3 _ (by kernel_rfl) ?_
    cases C13 with
    | false => simp [c12, c21, c23, c13]
    | true =>
      cases C23 with
      | false => simp [c12, c21, c23, c13]
      | true =>
        rcases pte rfl rfl with q | q
        · simp [c12, c21, c23, c13, q]
        · cases C12 <;> simp [c12, c21, c23, c13, q]
  intro _
  refine W.of_WE hT mixed M_f3 _ (by kernel_rfl) ?_
  simp [SAlive1]

end Go.Proofs.YtbnjijffkjcmcaaDoor.AL
namespace Go.Proofs.YtbnjijffkjcmcaaDoor.AL
open Go
/-! Addresses in their order; prefixes that are cut. -/
theorem cmpA_num {a b c d : Int} (h1 : inA a b) (h2 : inA c d) : cmpA a b c d = if numA (a, b) < numA (c, d) then -1 else if numA (c, d) < numA (a, b) then 1 else 0 := by
  obtain ⟨a0, a1, b0, b1⟩ := h1
  obtain ⟨c0, c1, d0, d1⟩ := h2
  unfold cmpA numA
  simp only
  repeat' split
  all_goals omega
theorem numA_rng {a b : Int} (h1 : inA a b) : 0 ≤ numA (a, b) ∧ numA (a, b) < 2 ^ 128 := by
  obtain ⟨a0, a1, b0, b1⟩ := h1
  unfold numA
  simp only
  show _ ∧ _ < (340282366920938463463374607431768211456 : Int)
  omega
theorem pow_split {x : Int} (j : Nat) : x / 2 ^ j = 2 * (x / 2 ^ (j + 1)) + x / 2 ^ j % 2 := by
  have : x / 2 ^ (j + 1) = x / 2 ^ j / 2 := by rw [ipow_add, ← Int.ediv_ediv_of_nonneg (Int.le_of_lt (ipow_pos j))]; rfl
  rw [this]; omega
theorem div_lt {x y : Int} {j : Nat} (h : x / 2 ^ j < y / 2 ^ j) : x < y := by
  rcases Int.lt_or_le x y with k | k
  · exact k
  · have := Int.ediv_le_ediv (ipow_pos j) k
    omega
theorem cmp_diff {a b c d : Int} {k : Nat} (h1 : inA a b) (h2 : inA c d) (hk : k < 128) (hs : ∀ i, i < k → bt a b (127 - i) = bt c d (127 - i)) (hd : bt a b (127 - k) ≠ bt c d (127 - k)) :
    cmpA a b c d = bt a b (127 - k) - bt c d (127 - k) := by
  have n1 := numA_rng h1
  have n2 := numA_rng h2
  rw [cmpA_num h1 h2]
  have e1 := bt_num h1.2.2.1 h1.2.2.2 (h := a) (127 - k)
  have e2 := bt_num h2.2.2.1 h2.2.2.2 (h := c) (127 - k)
  have hb := (bits_from (w := 128) (k := 127 - k + 1) (N := numA (a, b)) (M := numA (c, d)) (by omega) n1.1 n1.2 n2.1 n2.2).1 (fun i x1 x2 => by
    have := hs (127 - i) (by omega)
    rw [show 127 - (127 - i) = i by omega, bt_num h1.2.2.1 h1.2.2.2, bt_num h2.2.2.1 h2.2.2.2] at this
    exact this)
  have s1 := pow_split (x := numA (a, b)) (127 - k)
  have s2 := pow_split (x := numA (c, d)) (127 - k)
  have l1 := @div_lt (numA (a, b)) (numA (c, d)) (127 - k)
  have l2 := @div_lt (numA (c, d)) (numA (a, b)) (127 - k)
  rw [e1, e2] at hd ⊢
  rw [hb] at s1
  generalize numA (a, b) / 2 ^ (127 - k) = X at *
  generalize numA (c, d) / 2 ^ (127 - k) = Y at *
  have : X < Y ∨ Y < X := by omega
  rcases this with q | q
  · rw [if_pos (l1 q)]; omega
  · have := l2 q
    rw [if_neg (by omega), if_pos this]; omega
theorem cmp_same {a b c d : Int} (h1 : inA a b) (h2 : inA c d) (hs : ∀ i, i < 128 → bt a b (127 - i) = bt c d (127 - i)) : cmpA a b c d = 0 := by
  have n1 := numA_rng h1
  have n2 := numA_rng h2
  have hb := (bits_from (w := 128) (k := 0) (N := numA (a, b)) (M := numA (c, d)) (by omega) n1.1 n1.2 n2.1 n2.2).1 (fun i x1 x2 => by
    have := hs (127 - i) (by omega)
    rw [show 127 - (127 - i) = i by omega, bt_num h1.2.2.1 h1.2.2.2, bt_num h2.2.2.1 h2.2.2.2] at this
    exact this)
  simp only [Int.pow_zero, Int.ediv_one] at hb
  rw [cmpA_num h1 h2, hb]; simp
theorem cmp_zero {a b c d : Int} : cmpA a b c d = 0 ↔ a = c ∧ b = d := by
  unfold cmpA
  split
  · simp_all
  · split <;> simp_all
theorem cmp_anti (a b c d : Int) : cmpA a b c d + cmpA c d a b = 0 := by
  unfold cmpA
  repeat' split
  all_goals omega
theorem cmp_rng (a b c d : Int) : -1 ≤ cmpA a b c d ∧ cmpA a b c d ≤ 1 := by
  unfold cmpA
  repeat' split
  all_goals omega
theorem cutA_zero (h l : Int) : cutA h l 0 = (h, l) := by simp [cutA]
theorem cAddr_cut {f h l : Int} {k : Nat} (hin : inA h l) (hc : cAddr f h l = true) (hk : k ≤ widN f) : cAddr f (cutA h l k).1 (cutA h l k).2 = true := by
  rcases cAddr_46 hc with rfl | rfl
  · obtain ⟨rfl, hl⟩ := cAddr_4 hc rfl
    have hk' : k ≤ 32 := hk
    have e : cutA 0 l k = (0, l / 2 ^ k * 2 ^ k) := by unfold cutA; rw [if_neg (by omega)]
    have := Int.ediv_mul_le l (Int.ne_of_gt (ipow_pos k))
    rw [e]
    unfold cAddr
    simp
    omega
  · rfl
theorem bt_cut {h l : Int} {k i : Nat} (hin : inA h l) : bt (cutA h l k).1 (cutA h l k).2 i = if k ≤ i then bt h l i else 0 := by
  have hr := cutA_rng hin k
  rw [bt_num hr.2.2.1 hr.2.2.2, bt_num hin.2.2.1 hin.2.2.2]
  rw [show ((cutA h l k).1, (cutA h l k).2) = cutA h l k from rfl, cutA_num hin.2.2.1 hin.2.2.2]
  split
  · rename_i hk; rw [div_mul_div hk]
  · rename_i hk
    obtain ⟨d, rfl⟩ : ∃ d, k = i + (d + 1) := ⟨k - i - 1, by omega⟩
    have hp := ipow_pos i
    rw [ipow_add i (d + 1), Int.mul_comm (2 ^ i) (2 ^ (d + 1)), ← Int.mul_assoc, Int.mul_ediv_cancel _ (by omega), ipow_succ, ← Int.mul_assoc]
    omega
theorem chk_cut {f h l : Int} {j : Nat} (hin : inA h l) (hc : cAddr f h l = true) (hj : j ≤ widN f) : chkP f (cutA h l (widN f - j)).1 (cutA h l (widN f - j)).2 j = 0 := by
  unfold chkP
  have hw : widN f ≠ 0 := by rcases cAddr_46 hc with rfl | rfl <;> decide
  rw [if_neg hw, if_pos ⟨cAddr_cut hin hc (by omega), by omega, by omega⟩, Int.toNat_natCast, cutA_cut hin (Nat.le_refl _), if_pos rfl]
theorem cov_cut {f h l : Int} {j j' : Nat} (hin : inA h l) (hc : cAddr f h l = true) (hj : j ≤ widN f) (hj' : j' ≤ widN f) :
    covP f (cutA h l (widN f - j)).1 (cutA h l (widN f - j)).2 j f (cutA h l (widN f - j')).1 (cutA h l (widN f - j')).2 j' = decide (j ≤ j') := by
  rw [Bool.eq_iff_iff, cov_iff, decide_eq_true_eq]
  constructor
  · intro h; omega
  · intro hjj
    exact ⟨chk_cut hin hc hj, chk_cut hin hc hj', rfl, by omega, by rw [Int.toNat_natCast, cutA_cut hin (by omega)]⟩
end Go.Proofs.YtbnjijffkjcmcaaDoor.AL

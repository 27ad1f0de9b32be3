import Derived.Test.YtbnjijffkjcmcaaDoorPX6W8
/- What single functions compute: a part of the proof; no conditions. -/
set_option linter.unusedVariables false
set_option linter.unusedSimpArgs false
set_option linter.unusedSectionVars false
set_option maxRecDepth 100000
namespace Go.Proofs.YtbnjijffkjcmcaaDoor.AL
open Go
theorem bt_h {h l : Int} {k : Nat} (hk : 63 < k) : bt h l k = h / 2 ^ (k - 64) % 2 := by unfold bt; rw [if_pos hk]
theorem bt_l {h l : Int} {k : Nat} (hk : ¬ 63 < k) : bt h l k = l / 2 ^ k % 2 := by unfold bt; rw [if_neg hk]
theorem grp_bits (M : Int) (hM : 0 ≤ M) (s k : Nat) : ((List.range k).map fun j => M / 2 ^ (s + (k - 1 - j)) % 2).foldl (fun n x => n * 2 + x) 0 = M / 2 ^ s % 2 ^ k := by
  rw [← fold_bits k (M / 2 ^ s) (Int.ediv_nonneg hM (Int.le_of_lt (ipow_pos s)))]
  congr 1
  refine List.map_congr_left fun j _ => ?_
  rw [ipow_add, Int.ediv_ediv_of_nonneg (Int.le_of_lt (ipow_pos s))]
theorem nat_div_mod (x a b : Nat) : (x : Int) / 2 ^ a % b = ((x / 2 ^ a % b : Nat) : Int) := by
  rw [← ipow a]; norm_cast
theorem grp4_bits (l : Nat) {i : Nat} (hi : i < 4) : ((List.range 8).map fun j => bt 0 (l : Int) (31 - (8 * i + j))).foldl (fun n x => n * 2 + x) 0 = ((b4 l i : Nat) : Int) := by
  have e := grp_bits (l : Int) (by omega) (24 - 8 * i) 8
  have e2 : ((List.range 8).map fun j => bt 0 (l : Int) (31 - (8 * i + j))) = (List.range 8).map fun j => (l : Int) / 2 ^ (24 - 8 * i + (8 - 1 - j)) % 2 := by
    refine List.map_congr_left fun j hj => ?_
    have := List.mem_range.1 hj
    rw [bt_l (by omega), show 31 - (8 * i + j) = 24 - 8 * i + (8 - 1 - j) by omega]
  rw [e2, e]
  exact nat_div_mod l (24 - 8 * i) 256
theorem grp8_bits (h l : Nat) {i : Nat} (hi : i < 8) : ((List.range 16).map fun j => bt (h : Int) (l : Int) (127 - (16 * i + j))).foldl (fun n x => n * 2 + x) 0 = (((G8 h l).getD i 0 : Nat) : Int) := by
  by_cases h4 : i < 4
  · have e := grp_bits (h : Int) (by omega) (48 - 16 * i) 16
    have e2 : ((List.range 16).map fun j => bt (h : Int) (l : Int) (127 - (16 * i + j))) = (List.range 16).map fun j => (h : Int) / 2 ^ (48 - 16 * i + (16 - 1 - j)) % 2 := by
      refine List.map_congr_left fun j hj => ?_
      have := List.mem_range.1 hj
      rw [bt_h (by omega), show 127 - (16 * i + j) - 64 = 48 - 16 * i + (16 - 1 - j) by omega]
    rw [e2, e]
    have e3 : (G8 h l).getD i 0 = grpN h i := by
      have : i = 0 ∨ i = 1 ∨ i = 2 ∨ i = 3 := by omega
      rcases this with rfl | rfl | rfl | rfl <;> rfl
    rw [e3]
    exact nat_div_mod h (48 - 16 * i) 65536
  · have e := grp_bits (l : Int) (by omega) (48 - 16 * (i - 4)) 16
    have e2 : ((List.range 16).map fun j => bt (h : Int) (l : Int) (127 - (16 * i + j))) = (List.range 16).map fun j => (l : Int) / 2 ^ (48 - 16 * (i - 4) + (16 - 1 - j)) % 2 := by
      refine List.map_congr_left fun j hj => ?_
      have := List.mem_range.1 hj
      rw [bt_l (by omega), show 127 - (16 * i + j) = 48 - 16 * (i - 4) + (16 - 1 - j) by omega]
    rw [e2, e]
    have e3 : (G8 h l).getD i 0 = grpN l (i - 4) := by
      have : i = 4 ∨ i = 5 ∨ i = 6 ∨ i = 7 := by omega
      rcases this with rfl | rfl | rfl | rfl <;> rfl
    rw [e3]
    exact nat_div_mod l (48 - 16 * (i - 4)) 65536
theorem zrN_step : ∀ (D : List Nat) (k : Nat) (h : k < D.length), (k + 1 ≤ zrN D ↔ k ≤ zrN D ∧ D[k] = 0)
  | [], k, h => by simp at h
  | x :: D, 0, h => by
    by_cases hx : x = 0 <;> simp [zrN, hx]
  | x :: D, k + 1, h => by
    have ih := zrN_step D k (by simp at h; omega)
    by_cases hx : x = 0
    · simp only [zrN, hx, if_true, List.getElem_cons_succ]
      omega
    · simp [zrN, hx]
end Go.Proofs.YtbnjijffkjcmcaaDoor.AL
namespace Go.Proofs.YtbnjijffkjcmcaaDoor.AL
open Go
attribute [local simp] qf cv qbin ibin sbin qun retPost rvOk ctV ctPost marksOk retV resAll resOf V.lt ltL V.ren renL V.exp V.exp1 cleanL V.clean closedL V.closed V.cells V.one V.tree
  loadV cellsAt isNC nilQ isSlD isIfD slNew ownRows ownCells V.isOwn slStore srcO qlook mlook mget mstr zval qnone qmake mput lmap isAggD placesOf fillV putCells lstore bound seqParts V.sh shL Blk.sh newV V.ok peqs peq srcRows qbytes byteSl appOk mmV mmR hidE V.fz fzL Blk.fz fzOk and_assoc
attribute [-simp] Int.not_le Int.not_lt Nat.not_le Nat.not_lt
/-! The reference's string of an address. -/
theorem grp_at {k : Nat} (g : Nat → Int) (hb : ∀ j, g j = 0 ∨ g j = 1) (hk : k ≤ 16) (v : Int) (hv : ((List.range k).map g).foldl (fun n x => n * 2 + x) 0 = v) : SGrp [.rd 1 (rg k g)] = some ⟨.int .u64 v, []⟩ := by
  simp only [SGrp, intsOf_rg]
  rw [ifC_pos ⟨bits01_rg k g (fun i _ => hb i), by simpa using hk⟩]
  unfold grpI
  rw [hv]
theorem uRows_take (L : List Nat) (k : Nat) : (uRows L).take k = uRows (L.take k) := by unfold uRows; rw [List.map_take]
theorem uRows_drop (L : List Nat) (k : Nat) : (uRows L).drop k = uRows (L.drop k) := by unfold uRows; rw [List.map_drop]
theorem uRows_snoc (L : List Nat) (k : Nat) (h : k < L.length) : uRows (L.take k) ++ [[.int .u64 (L[k] : Int)]] = uRows (L.take (k + 1)) := by
  rw [List.take_succ_eq_append_getElem h]; unfold uRows; rw [List.map_append]; rfl
def t4p (l : Nat) (k : Nat) : List UInt8 := Lib.join ((List.range k).map fun i => dgs 10 (b4 l i)) [46]
theorem t4p_snoc (l k : Nat) : t4p l (k + 1) = if k = 0 then dgs 10 (b4 l k) else t4p l k ++ 46 :: dgs 10 (b4 l k) := by
  unfold t4p
  rw [List.range_succ, List.map_append]
  split
  · rename_i h0; subst h0; simp [Lib.join]
  · rename_i h0
    rw [List.map_cons, List.map_nil, join_snoc _ _ _ (by intro e; rw [List.map_eq_nil_iff] at e; have := congrArg List.length e; simp at this; omega)]
    simp
theorem t4p_len (l : Nat) : ∀ k, (t4p l k).length ≤ 4 * k
  | 0 => by simp [t4p, Lib.join]
  | k + 1 => by
    have ih := t4p_len l k
    have h8 : (dgs 10 (b4 l k)).length ≤ 3 := dgs_len (by omega) 2 _ (by have := b4_lt l k; omega) (by have := b4_lt l k; omega)
    rw [t4p_snoc]
    split
    · omega
    · simp; omega
def M_f18 : Md := fun i => if i = 30 then some #[0, 0, 3, 7, 15, 0, 0, 0, 192, 480, 1007, 2047, 4095, 8191] else some #[]
@[simp] theorem M_f18_eq {i : Nat} : M_f18 i = (if i = 30 then some #[0, 0, 3, 7, 15, 0, 0, 0, 192, 480, 1007, 2047, 4095, 8191] else some #[]) := rfl
theorem runs_ref01_AddrText : ∀ args r, SAddrT args = some r → Runs Tryd.prog 18 args r := by
  intro args r hh
  unfold SAddrT ifC at hh
  split at hh
  · rename_i f h0 l0
    split at hh
    · rename_i hin
      obtain ⟨h, rfl⟩ : ∃ k : Nat, h0 = k := ⟨h0.toNat, by omega⟩
      obtain ⟨l, rfl⟩ : ∃ k : Nat, l0 = k := ⟨l0.toNat, by omega⟩
      cases hh
      simp only [Int.toNat_natCast]
      have hA : inA (h : Int) (l : Int) := ⟨by omega, by omega, by omega, by omega⟩
      have hT : (((((T0.add 51 SAddr).add 52 SBits).add 54 SGrp).add 53 SDg).add 55 SJnd).ok Tryd.prog := Tab.add_ok (Tab.add_ok (Tab.add_ok (Tab.add_ok (Tab.add_ok (T0_ok _) runs_ref01_CheckAddr) runs_ref01_Bits) runs_ref01_group) runs_ref01_Digits) runs_ref01_colons
      refine Runs.of_body Tryd.func18 (by decide) rfl (by simp [Tryd.f18]) ?_
      refine W.seqE hT mixed M_f18 (by kernel_rfl) ?_
      simp [Tryd.f18]
      by_cases hc : cAddr f h l = true
      · rw [if_pos hc]
        have hbits : SBits [.int .u8 f, .agg [.int .u64 (h : Int), .int .u64 (l : Int)]] = some ⟨.own 0, [.sl 1 3 (rg (widN f) fun i => bt h l (widN f - 1 - i))]⟩ := by
          simp only [SBits]; rw [if_pos hA]
        have hca : SAddr [.int .u8 f, .agg [.int .u64 (h : Int), .int .u64 (l : Int)]] = some ⟨.bool true, []⟩ := by simp only [SAddr, hc]
        refine W.cut True [(0, .int .u8 f), (3, .ptr 0 0)] [.box 24 [.int .u64 h, .int .u64 l]] 100 ?_ ?_
        · refine W.of_WE hT mixed M_f18 _ (by kernel_rfl) ?_
          simp [Tryd.f18, hca]
        intro _
        refine W.cut True [(0, .int .u8 f), (6, .own 0)] [.sl 1 3 (rg (widN f) fun i => bt h l (widN f - 1 - i))] 100 ?_ ?_
        · refine W.of_WE hT mixed M_f18 _ (by kernel_rfl) ?_
          simp [Tryd.f18, hbits]
        intro _
        refine W.wk (Wk.freeze 0 (.sl 1 3 (rg (widN f) fun i => bt h l (widN f - 1 - i))) (by simp) (by simp)) ?_
        rcases cAddr_46 hc with rfl | rfl
        · obtain ⟨h00, hl4⟩ := cAddr_4 hc rfl
          obtain rfl : h = 0 := by omega
          have e4 : addrT (4 : Int).toNat 0 l = t4p l 4 := rfl
          rw [e4]
          have hsl : ∀ i, i < 4 → SGrp [.rd 1 (((rg 32 fun j => bt ((0 : Nat) : Int) l (31 - j)).drop (8 * i)).take 8)] = some ⟨.int .u64 ((b4 l i : Nat) : Int), []⟩ := fun i hi => by
            rw [rg_slice _ (by omega)]
            exact grp_at _ (fun j => bt_01 ..) (by omega) _ (grp4_bits l hi)
          have hrl : (rg 32 fun j => bt ((0 : Nat) : Int) l (31 - j)).length = 32 := rg_length _ _
          have hwd : (rg (widN 4) fun i => bt ((0 : Nat) : Int) l (widN 4 - 1 - i)) = (rg 32 fun j => bt ((0 : Nat) : Int) l (31 - j)) := rfl
          rw [hwd]
          generalize (rg 32 fun j => bt ((0 : Nat) : Int) l (31 - j)) = RW at *
          refine W.cut False [] [] 100 ?_ (fun h => h.elim)
          refine W.seqE hT mixed M_f18 (by kernel_rfl) ?_
          simp [Tryd.f18]
          refine W.cond true (by simp) (fun _ => ?_) (by simp)
          refine W.seqE hT mixed M_f18 (by kernel_rfl) ?_
          simp
          refine W.cut True [(7, .str (bs (t4p l 4)))] [] 100 ?_ ?_
          · refine W.seqE hT mixed M_f18 (by kernel_rfl) ?_
            simp [Tryd.f18]
            refine W.block (W.for (fun _ => True) (fun k => [(6, .rd 1 RW), (7, .str (bs (t4p l k))), (8, .int .i64 k)]) (fun _ => []) 100 4 trivial ?_ ?_)
            · simp [t4p, Lib.join, bs]
            · intro k hk _
              refine W.of_WE hT mixed M_f18 _ (by kernel_rfl) ?_
              by_cases hlt : k < 4
              · have g1 := hsl k hlt
                have g2 := dg_at (n := b4 l k) (b := 10) (by have := b4_lt l k; omega) (.inl rfl)
                rw [show ((10 : Nat) : Int) = 10 from rfl] at g2
                have h8 : (dgs 10 (b4 l k)).length ≤ 3 := dgs_len (by omega) 2 _ (by have := b4_lt l k; omega) (by have := b4_lt l k; omega)
                have h1 := t4p_len l k
                have h3 := t4p_snoc l k
                generalize b4 l k = x at *
                have w1 : IntKind.i64.wrap ((k : Int) + 1) = (k : Int) + 1 := by rw [wr_i64 (by omega) (by omega)]
                have w2 : IntKind.i64.wrap (8 * (k : Int)) = 8 * (k : Int) := by rw [wr_i64 (by omega) (by omega)]
                have w3 : IntKind.i64.wrap (8 * (k : Int) + 8) = 8 * (k : Int) + 8 := by rw [wr_i64 (by omega) (by omega)]
                have n1 : (8 * (k : Int)).toNat = 8 * k := by omega
                have n2 : (8 * (k : Int) + 8).toNat = 8 * k + 8 := by omega
                by_cases hk0 : k = 0
                · subst hk0
                  rw [if_pos rfl] at h3
                  have e1 : bs (t4p l 0) ++ bs (dgs 10 x) = bs (t4p l 1) := by rw [bs_append, h3]; simp [t4p, Lib.join]
                  have z1 : (bs (t4p l 0)).size = 0 := rfl
                  have z3 : (bs (dgs 10 x)).size ≤ 3 := by rw [bs_size]; omega
                  simp at g1
                  simp [g1, g2, hrl, show IntKind.i64.wrap 1 = 1 from rfl, show IntKind.i64.wrap 0 = 0 from rfl, show IntKind.i64.wrap 8 = 8 from rfl, e1, z1]
                  omega
                · rw [if_neg hk0] at h3
                  have e1 : bs (t4p l k) ++ (⟨#[46]⟩ : ByteArray) = bs (t4p l k ++ [46]) := bs_append _ [46]
                  have e2 : bs (t4p l k ++ [46]) ++ bs (dgs 10 x) = bs (t4p l (k + 1)) := by rw [bs_append, h3]; simp
                  have z1 : (bs (t4p l k)).size ≤ 12 := by rw [bs_size]; omega
                  have z2 : (bs (t4p l k ++ [46])).size ≤ 13 := by rw [bs_size]; simp; omega
                  have z3 : (bs (dgs 10 x)).size ≤ 3 := by rw [bs_size]; omega
                  have z4 : (⟨#[46]⟩ : ByteArray).size = 1 := rfl
                  simp [hlt, g1, g2, w1, w2, w3, n1, n2, hrl, e1, e2, z4, show 0 < k by omega]
                  omega
              · obtain rfl : k = 4 := by omega
                simp
          intro _
          refine W.of_WE hT mixed M_f18 _ (by kernel_rfl) ?_
          simp [Tryd.f18]
        · have e6 : addrT (6 : Int).toNat h l = text6L (G8 h l) := rfl
          rw [e6]
          have hL := G8_len h l
          have hx := G8_lt h l
          have hsl : ∀ i, i < 8 → SGrp [.rd 1 (((rg 128 fun j => bt (h : Int) l (127 - j)).drop (16 * i)).take 16)] = some ⟨.int .u64 (((G8 h l).getD i 0 : Nat) : Int), []⟩ := fun i hi => by
            rw [rg_slice _ (by omega)]
            exact grp_at _ (fun j => bt_01 ..) (by omega) _ (grp8_bits h l hi)
          have hrl : (rg 128 fun j => bt (h : Int) l (127 - j)).length = 128 := rg_length _ _
          have hwd : (rg (widN 6) fun i => bt (h : Int) l (widN 6 - 1 - i)) = (rg 128 fun j => bt (h : Int) l (127 - j)) := rfl
          rw [hwd]
          generalize (rg 128 fun j => bt (h : Int) l (127 - j)) = RW at *
          generalize G8 h l = L at *
          refine W.cut True [(6, .rd 1 RW)] [] 100 ?_ ?_
          · refine W.of_WE hT mixed M_f18 _ (by kernel_rfl) ?_
            simp [Tryd.f18]
          intro _
          refine W.seqE hT mixed M_f18 (by kernel_rfl) ?_
          simp [Tryd.f18]
          refine W.wk (Wk.adopt 9 1 22 (by omega) (by simp)) ?_
          refine W.cut True [(9, .own 0)] [.sl 1 22 (uRows L)] 100 ?_ ?_
          · refine W.seqE hT mixed M_f18 (by kernel_rfl) ?_
            simp [Tryd.f18]
            refine W.block (W.for (fun _ => True) (fun k => [(6, .rd 1 RW), (9, .own 0), (10, .int .i64 k)]) (fun k => [.sl 1 22 (uRows (L.take k))]) 100 8 trivial ?_ ?_)
            · simp [uRows]
            · intro k hk _
              refine W.of_WE hT mixed M_f18 _ (by kernel_rfl) ?_
              by_cases hlt : k < 8
              · have g1 := hsl k hlt
                have hlt2 : k < L.length := by omega
                have g2 := uRows_snoc L k hlt2
                have g3 : L.getD k 0 = L[k] := by rw [List.getD_eq_getElem?_getD, List.getElem?_eq_getElem hlt2]; rfl
                rw [g3] at g1
                have g4 : (uRows (L.take k)).length = k := by rw [uRows_len]; simp; omega
                generalize L[k] = x at *
                generalize uRows (L.take k) = R1 at *
                have w1 : IntKind.i64.wrap ((k : Int) + 1) = (k : Int) + 1 := by rw [wr_i64 (by omega) (by omega)]
                have w2 : IntKind.i64.wrap (16 * (k : Int)) = 16 * (k : Int) := by rw [wr_i64 (by omega) (by omega)]
                have w3 : IntKind.i64.wrap (16 * (k : Int) + 16) = 16 * (k : Int) + 16 := by rw [wr_i64 (by omega) (by omega)]
                have n1 : (16 * (k : Int)).toNat = 16 * k := by omega
                have n2 : (16 * (k : Int) + 16).toNat = 16 * k + 16 := by omega
                simp [hlt, g1, w1, w2, w3, n1, n2, hrl, g2, g4]
                omega
              · obtain rfl : k = 8 := by omega
                simp
                rw [← hL, List.take_length]
          intro _
          refine W.wk (Wk.freeze 0 (.sl 1 22 (uRows L)) (by simp) (by simp)) ?_
          have hln : (uRows L).length = 8 := by rw [uRows_len, hL]
          refine W.cut (∀ m j, 1 < m → j + m ≤ 8 → ¬ zr L j m) [(9, .rd 1 (uRows L))] [] 100 ?_ ?_
          · refine W.seqE hT mixed M_f18 (by kernel_rfl) ?_
            simp [Tryd.f18]
            refine W.block (W.for (fun k => ∀ m j, 8 - k < m → j + m ≤ 8 → ¬ zr L j m) (fun k => [(9, .rd 1 (uRows L)), (11, .int .i64 (8 - (k : Int)))]) (fun _ => []) 100 7 (fun m j h1 h2 => by omega) ?_ ?_)
            · simp
            · intro k hk hJ
              obtain ⟨n, hn⟩ : ∃ n : Nat, n + k = 8 := ⟨8 - k, by omega⟩
              have e8 : 8 - (k : Int) = (n : Int) := by omega
              have e7 : 8 - ((k + 1 : Nat) : Int) = (n : Int) - 1 := by omega
              have e9 : 8 - k = n := by omega
              rw [e8, e7]
              rw [e9] at hJ
              by_cases hlt : 1 < n
              · refine W.cut True [(9, .rd 1 (uRows L)), (11, .int .i64 n)] [] 100 ?_ ?_
                · refine W.of_WE hT mixed M_f18 _ (by kernel_rfl) ?_
                  simp [Tryd.f18, show (1 : Int) < (n : Int) by omega]
                intro _
                refine W.cut (∀ j, j + n ≤ 8 → ¬ zr L j n) [(9, .rd 1 (uRows L)), (11, .int .i64 n)] [] 100 ?_ ?_
                · refine W.block ?_
                  refine W.seqE hT mixed M_f18 (by kernel_rfl) ?_
                  simp [Tryd.f18]
                  refine W.block (W.for (fun a => ∀ j, j < a → ¬ zr L j n) (fun a => [(9, .rd 1 (uRows L)), (11, .int .i64 n), (12, .int .i64 a)]) (fun _ => []) 100 (k + 1) (fun j h => by omega) ?_ ?_)
                  · simp
                  · intro a ha hJa
                    have w1 : IntKind.i64.wrap ((a : Int) + (n : Int)) = (a : Int) + (n : Int) := by rw [wr_i64 (by omega) (by omega)]
                    have w2 : IntKind.i64.wrap ((a : Int) + 1) = (a : Int) + 1 := by rw [wr_i64 (by omega) (by omega)]
                    by_cases hla : a + n ≤ 8
                    · refine W.cut True [(9, .rd 1 (uRows L)), (11, .int .i64 n), (12, .int .i64 a)] [] 100 ?_ ?_
                      · refine W.of_WE hT mixed M_f18 _ (by kernel_rfl) ?_
                        simp [Tryd.f18, w1, show (a : Int) + (n : Int) ≤ 8 by omega]
                      intro _
                      refine W.cut (¬ zr L a n) [(9, .rd 1 (uRows L)), (11, .int .i64 n), (12, .int .i64 a)] [] 100 ?_ ?_
                      · refine W.block ?_
                        refine W.seqE hT mixed M_f18 (by kernel_rfl) ?_
                        simp [Tryd.f18]
                        refine W.cut True [(9, .rd 1 (uRows L)), (11, .int .i64 n), (12, .int .i64 a), (13, .bool (decide (n ≤ zrN (L.drop a))))] [] 100 ?_ ?_
                        · refine W.seqE hT mixed M_f18 (by kernel_rfl) ?_
                          simp [Tryd.f18]
                          refine W.block (W.for (fun _ => True) (fun c => [(9, .rd 1 (uRows L)), (11, .int .i64 n), (12, .int .i64 a), (13, .bool (decide (c ≤ zrN (L.drop a)))), (14, .int .i64 ((a : Int) + (c : Int)))]) (fun _ => []) 100 n trivial ?_ ?_)
                          · simp
                          · intro c hc _
                            refine W.of_WE hT mixed M_f18 _ (by kernel_rfl) ?_
                            by_cases hlc : c < n
                            · have hd : c < (L.drop a).length := by simp; omega
                              have hst := zrN_step (L.drop a) c hd
                              have hge : (L.drop a)[c] = L[a + c] := by simp
                              rw [hge] at hst
                              have hgu : (uRows L)[a + c]? = some [.int .u64 (L[a + c] : Int)] := by unfold uRows; rw [List.getElem?_map, List.getElem?_eq_getElem (by omega)]; rfl
                              have w3 : IntKind.i64.wrap ((a : Int) + (c : Int) + 1) = (a : Int) + (c : Int) + 1 := by rw [wr_i64 (by omega) (by omega)]
                              have n3 : ((a : Int) + (c : Int)).toNat = a + c := by omega
                              have h3 : (a : Int) + (c : Int) < (a : Int) + (n : Int) := by omega
                              have h4 : (a : Int) + (c : Int) < 8 := by omega
                              have h5 : (0 : Int) ≤ (a : Int) + (c : Int) := by omega
                              generalize L[a + c] = x at *
                              generalize zrN (L.drop a) = zz at *
                              by_cases hcz : c ≤ zz
                              · by_cases hx0 : x = 0
                                · have hc1 : c + 1 ≤ zz := hst.2 ⟨hcz, hx0⟩
                                  simp [w1, w3, n3, hln, hgu, hcz, hx0, hc1, h3, h4, h5, hlc, List.getD_eq_getElem?_getD]
                                  trace_state
                                  omega
                                · have hc1 : ¬ c + 1 ≤ zz := fun q => hx0 (hst.1 q).2
                                  simp [w1, w3, n3, hln, hgu, hcz, hx0, hc1, h3, h4, h5, hlc, List.getD_eq_getElem?_getD]
                                  trace_state
                                  omega
                              · have hc1 : ¬ c + 1 ≤ zz := by omega
                                simp [w1, w3, n3, hln, hcz, hc1, h3, h4, h5, hlc, List.getD_eq_getElem?_getD]
                                trace_state
                                omega
                            · obtain rfl : c = n := by omega
                              simp [w1]
                        intro _
                        refine W.of_WE hT mixed M_f18 _ (by kernel_rfl) ?_
                        by_cases hz : n ≤ zrN (L.drop a)
                        · have hf := lrun_found hL (i := a) (n := n) (by omega) hla hz hJ hJa
                          have ht : text6L L = hj (L.take a) ++ 58 :: 58 :: hj (L.drop (a + n)) := by
                            unfold text6L
                            rw [hf, if_neg (by show ¬ n < 2; omega)]
                          have j1 := jnd_at (L := L.take a) (fun x h => hx x (List.mem_of_mem_take h)) (by simp; omega)
                          have j2 := jnd_at (L := L.drop (a + n)) (fun x h => hx x (List.mem_of_mem_drop h)) (by simp; omega)
                          have l1 := hj_len (L.take a) (fun x h => hx x (List.mem_of_mem_take h))
                          have l2 := hj_len (L.drop (a + n)) (fun x h => hx x (List.mem_of_mem_drop h))
                          have l3 : (L.take a).length ≤ 8 := by simp; omega
                          have l4 : (L.drop (a + n)).length ≤ 8 := by simp; omega
                          have t1 : (uRows L).take a = uRows (L.take a) := uRows_take L a
                          have t2 : ((uRows L).drop (a + n)).take (8 - (a + n)) = uRows (L.drop (a + n)) := by
                            rw [uRows_drop, uRows_take, List.take_of_length_le (by simp; omega)]
                          rw [ht]
                          have e1 : bs (hj (L.take a)) ++ (⟨#[58, 58]⟩ : ByteArray) = bs (hj (L.take a) ++ [58, 58]) := bs_append _ [58, 58]
                          have e2 : bs (hj (L.take a) ++ [58, 58]) ++ bs (hj (L.drop (a + n))) = bs (hj (L.take a) ++ 58 :: 58 :: hj (L.drop (a + n))) := by rw [bs_append]; simp
                          have z1 : (bs (hj (L.take a))).size ≤ 40 := by rw [bs_size]; omega
                          have z2 : (bs (hj (L.take a) ++ [58, 58])).size ≤ 42 := by rw [bs_size]; simp; omega
                          have z3 : (bs (hj (L.drop (a + n)))).size ≤ 40 := by rw [bs_size]; omega
                          have z4 : (⟨#[58, 58]⟩ : ByteArray).size = 2 := rfl
                          have n3 : ((a : Int) + (n : Int)).toNat = a + n := by omega
                          generalize uRows (L.take a) = R1 at *
                          generalize uRows (L.drop (a + n)) = R2 at *
                          simp [Tryd.f18, hz, w1, n3, hln, t1, t2, j1, j2, e1, e2, z4]
                          trace_state
                          omega
                        · simp [Tryd.f18, hz]
                          exact hz
                      intro hz
                      refine W.of_WE hT mixed M_f18 _ (by kernel_rfl) ?_
                      simp [Tryd.f18, w2]
                      refine ⟨by omega, fun j h => ?_⟩
                      by_cases hja : j = a
                      · rw [hja]; exact hz
                      · exact hJa j (by omega)
                    · refine W.of_WE hT mixed M_f18 _ (by kernel_rfl) ?_
                      simp [Tryd.f18, w1, show ¬ (a : Int) + (n : Int) ≤ 8 by omega]
                      intro j h
                      exact hJa j (by omega)
                intro hz
                refine W.of_WE hT mixed M_f18 _ (by kernel_rfl) ?_
                have w2 : IntKind.i64.wrap ((n : Int) - 1) = (n : Int) - 1 := by rw [wr_i64 (by omega) (by omega)]
                simp [Tryd.f18, w2]
                refine ⟨by omega, fun m j h1 h2 => ?_⟩
                by_cases hmn : m = n
                · rw [hmn]; exact hz j (by omega)
                · exact hJ m j (by omega) h2
              · refine W.of_WE hT mixed M_f18 _ (by kernel_rfl) ?_
                simp [Tryd.f18, show ¬ (1 : Int) < (n : Int) by omega]
                intro m j h1 h2
                exact hJ m j (by omega) h2
          intro hno
          have hnot := lrun_not hL (fun m j h1 h2 => hno m j h1 h2)
          have ht : text6L L = hj L := by unfold text6L; rw [if_pos hnot]
          rw [ht]
          have hjn := jnd_at hx (by omega)
          refine W.of_WE hT mixed M_f18 _ (by kernel_rfl) ?_
          simp [Tryd.f18, hjn]
      · rw [if_neg hc]
        have hca : SAddr [.int .u8 f, .agg [.int .u64 (h : Int), .int .u64 (l : Int)]] = some ⟨.bool false, []⟩ := by simp only [SAddr, hc]
        refine W.cut False [] [] 100 ?_ (fun h => h.elim)
        refine W.of_WE hT mixed M_f18 _ (by kernel_rfl) ?_
        simp [Tryd.f18, hca, bs]
    · cases hh
  · cases hh

end Go.Proofs.YtbnjijffkjcmcaaDoor.AL
namespace Go.Proofs.YtbnjijffkjcmcaaDoor.AL
open Go
/-! For the reference's reading. -/
def vN (c : UInt8) : Nat := if 48 ≤ c.toNat ∧ c.toNat ≤ 57 then c.toNat - 48 else if 97 ≤ c.toNat ∧ c.toNat ≤ 102 then c.toNat - 87 else 99
theorem vN_dval {b : Nat} (hb : b ≤ 16) (c : UInt8) : dval b c = if vN c < b then some (vN c) else none := by
  unfold dval vN
  by_cases h1 : 48 ≤ c.toNat ∧ c.toNat ≤ 57
  · rw [if_pos h1, if_pos h1]
  · rw [if_neg h1, if_neg h1]
    by_cases h2 : 97 ≤ c.toNat ∧ c.toNat ≤ 102
    · rw [if_pos h2, if_pos h2]
    · rw [if_neg h2, if_neg h2, if_neg (by omega)]
theorem valF_split (b : Nat) : ∀ (l m : List UInt8) (n : Nat), valF b n (l ++ m) = match valF b n l with | some k => valF b k m | none => none
  | [], m, n => rfl
  | x :: l, m, n => by
    simp only [List.cons_append, valF]
    cases dval b x with
    | none => rfl
    | some d => exact valF_split b l m _
/-- The number so far. -/
def nvF (b : Nat) (l : List UInt8) (k : Nat) : Nat := (valF b 0 (l.take k)).getD 0
theorem nvF_step {b : Nat} (hb : b ≤ 16) {l : List UInt8} {k : Nat} (hk : k < l.length) (h : (valF b 0 (l.take k)).isSome = true) :
    (vN l[k] < b → (valF b 0 (l.take (k + 1))).isSome = true ∧ nvF b l (k + 1) = nvF b l k * b + vN l[k]) ∧ (¬ vN l[k] < b → valF b 0 l = none) := by
  obtain ⟨m, hm⟩ := Option.isSome_iff_exists.1 h
  have e : valF b 0 (l.take (k + 1)) = (dval b l[k]).map (m * b + ·) := by
    rw [List.take_succ_eq_append_getElem hk, valF_app, hm]
  have hv := vN_dval hb l[k]
  constructor
  · intro hd
    rw [if_pos hd] at hv
    rw [hv] at e
    refine ⟨by rw [e]; rfl, ?_⟩
    unfold nvF
    rw [e, hm]; rfl
  · intro hd
    rw [if_neg hd] at hv
    have e2 : l = l.take (k + 1) ++ l.drop (k + 1) := (List.take_append_drop _ _).symm
    rw [e2, valF_split, e, hv]; rfl
theorem nvF_bd {b : Nat} (hb : 1 ≤ b) (hb' : b ≤ 16) {l : List UInt8} {k : Nat} (hl : l.length ≤ 10) (h : (valF b 0 (l.take k)).isSome = true) : nvF b l k < 1099511627776 := by
  obtain ⟨m, hm⟩ := Option.isSome_iff_exists.1 h
  have h1 := valF_bd b _ _ _ hm
  have h2 : (l.take k).length ≤ 10 := by simp; omega
  have h3 : b ^ (l.take k).length ≤ 16 ^ 10 := Nat.le_trans (Nat.pow_le_pow_left hb' _) (Nat.pow_le_pow_right (by omega) h2)
  have h4 : (16 : Nat) ^ 10 = 1099511627776 := by decide
  unfold nvF
  rw [hm]
  show m < _
  omega
theorem rgs_all {b lim : Nat} : ∀ (ps : List (List UInt8)), rgs b lim ps = if ps.all (fun p => (rnum b lim p).2) = true then some (ps.map fun p => (rnum b lim p).1) else none
  | [] => rfl
  | p :: ps => by
    unfold rgs
    rw [rgs_all ps]
    by_cases h1 : (rnum b lim p).2 = true
    · rw [if_pos h1]
      by_cases h2 : ps.all (fun p => (rnum b lim p).2) = true
      · rw [if_pos h2, if_pos (by simp [h1, h2])]; rfl
      · rw [if_neg h2, if_neg (by simp only [List.all_cons, h1, Bool.true_and]; exact h2)]; rfl
    · rw [if_neg h1, if_neg (by simp only [List.all_cons, Bool.and_eq_true]; exact fun q => h1 q.1)]
/-- The parts so far, and where the next begins. -/
def prt (c : UInt8) (l : List UInt8) : Nat → List (List UInt8) × Nat
  | 0 => ([], 0)
  | k + 1 => if l.getD k 0 = c then ((prt c l k).1 ++ [(l.drop (prt c l k).2).take (k - (prt c l k).2)], k + 1) else prt c l k
theorem prt_ok (c : UInt8) (l : List UInt8) : ∀ k, k ≤ l.length → (prt c l k).2 ≤ k ∧ c ∉ (l.drop (prt c l k).2).take (k - (prt c l k).2) ∧ spl c l = (prt c l k).1 ++ spl c (l.drop (prt c l k).2) ∧ (prt c l k).1.length ≤ k
  | 0, _ => ⟨Nat.le_refl _, by simp [prt], by simp [prt], by simp [prt]⟩
  | k + 1, hk => by
    obtain ⟨h1, h2, h3, h4⟩ := prt_ok c l k (by omega)
    have hlt : k < l.length := by omega
    have hg : l.getD k 0 = l[k] := by rw [List.getD_eq_getElem?_getD, List.getElem?_eq_getElem hlt]; rfl
    unfold prt
    generalize prt c l k = P at *
    obtain ⟨ps, q⟩ := P
    simp only at h1 h2 h3 h4 ⊢
    rw [hg]
    have hsplit : l.drop q = (l.drop q).take (k - q) ++ l[k] :: l.drop (k + 1) := by
      conv => lhs; rw [← List.take_append_drop (k - q) (l.drop q)]
      rw [List.drop_drop, show q + (k - q) = k by omega, List.drop_eq_getElem_cons hlt]
    by_cases he : l[k] = c
    · rw [if_pos he]
      refine ⟨Nat.le_refl _, by simp, ?_, by simp; omega⟩
      simp only
      rw [h3]
      have e := congrArg (spl c) hsplit
      rw [he, spl_app _ h2] at e
      rw [e]
      simp
    · rw [if_neg he]
      refine ⟨by simp only; omega, ?_, h3, by simp only; omega⟩
      simp only
      rw [show k + 1 - q = (k - q) + 1 by omega]
      intro hm
      have hlen : k - q < (l.drop q).length := by simp; omega
      rw [List.take_succ_eq_append_getElem hlen, List.mem_append] at hm
      rcases hm with hm | hm
      · exact h2 hm
      · simp only [List.getElem_drop, List.mem_singleton] at hm
        have e : l[q + (k - q)]'(by omega) = l[k] := by congr 1; omega
        rw [e] at hm
        exact he hm.symm
theorem prt_end (c : UInt8) (l : List UInt8) : spl c l = (prt c l l.length).1 ++ [l.drop (prt c l l.length).2] := by
  obtain ⟨h1, h2, h3, h4⟩ := prt_ok c l l.length (Nat.le_refl _)
  rw [h3]
  congr 1
  rw [List.take_of_length_le (by simp)] at h2
  exact spl_none h2
theorem cut2_no {l : List UInt8} (h : ∀ k, k + 1 < l.length → ¬ (l.getD k 0 = 58 ∧ l.getD (k + 1) 0 = 58)) : cut2 l = none := by
  cases hc : cut2 l with
  | none => rfl
  | some p =>
    obtain ⟨a, b⟩ := p
    have e := cut2_some hc
    have := h a.length (by rw [e]; simp)
    exfalso
    apply this
    rw [e]
    simp [List.getD_eq_getElem?_getD]
theorem cut2_at : ∀ {l : List UInt8} {k : Nat}, k + 1 < l.length → l.getD k 0 = 58 → l.getD (k + 1) 0 = 58 → (∀ j, j < k → ¬ (l.getD j 0 = 58 ∧ l.getD (j + 1) 0 = 58)) → cut2 l = some (l.take k, l.drop (k + 2))
  | x :: y :: l, 0, h, h1, h2, _ => by
    simp at h1 h2
    subst h1; subst h2
    simp [cut2]
  | [x], k, h, _, _, _ => by simp at h
  | [], k, h, _, _, _ => by simp at h
  | x :: y :: l, k + 1, h, h1, h2, h3 => by
    have ih := cut2_at (l := y :: l) (k := k) (by simp at h ⊢; omega) (by simpa using h1) (by simpa using h2) (fun j hj => by have := h3 (j + 1) (by omega); simpa using this)
    have h0 := h3 0 (by omega)
    by_cases hx : x = 58
    · have hy : y ≠ 58 := fun hy => h0 ⟨by simp [hx], by simp [hy]⟩
      rw [show cut2 (x :: y :: l) = (cut2 (y :: l)).map fun p => (x :: p.1, p.2) by rw [cut2, if_neg (fun e => hy e.2)], ih]
      rfl
    · rw [cut2_ne hx, ih]; rfl
end Go.Proofs.YtbnjijffkjcmcaaDoor.AL
namespace Go.Proofs.YtbnjijffkjcmcaaDoor.AL
open Go
attribute [local simp] qf cv qbin ibin sbin qun retPost rvOk ctV ctPost marksOk retV resAll resOf V.lt ltL V.ren renL V.exp V.exp1 cleanL V.clean closedL V.closed V.cells V.one V.tree
  loadV cellsAt isNC nilQ isSlD isIfD slNew ownRows ownCells V.isOwn slStore srcO qlook mlook mget mstr zval qnone qmake mput lmap isAggD placesOf fillV putCells lstore bound seqParts V.sh shL Blk.sh newV V.ok peqs peq srcRows qbytes byteSl appOk mmV mmR hidE V.fz fzL Blk.fz fzOk and_assoc
attribute [-simp] Int.not_le Int.not_lt Nat.not_le Nat.not_lt
/-! The reference's numbers, parts and groups. -/
def SVal : List V → Option Res
  | [.int .u8 c, .int .u64 b] => if 0 ≤ c ∧ c < 256 then some ⟨.tup [.int .u64 (vN (UInt8.ofNat c.toNat) : Nat), .bool (decide (((vN (UInt8.ofNat c.toNat) : Nat) : Int) < b))], []⟩ else none
  | _ => none
def M_f90 : Md := fun i => some #[]
@[simp] theorem M_f90_eq {i : Nat} : M_f90 i = (some #[]) := rfl
theorem runs_ref01_value : ∀ args r, SVal args = some r → Runs Tryd.prog 90 args r := by
  intro args r hh
  unfold SVal at hh
  split at hh
  · rename_i c b
    split at hh
    · rename_i hin
      cases hh
      obtain ⟨c, rfl⟩ : ∃ k : Nat, c = k := ⟨c.toNat, by omega⟩
      have hu : (UInt8.ofNat c).toNat = c := by simp; omega
      have hv : vN (UInt8.ofNat c) = if 48 ≤ c ∧ c ≤ 57 then c - 48 else if 97 ≤ c ∧ c ≤ 102 then c - 87 else 99 := by unfold vN; rw [hu]
      rw [Int.toNat_natCast, hv]
      refine Runs.of_body Tryd.func90 (by decide) rfl (by simp [Tryd.f90]) ?_
      refine W.of_WE (T0_ok _) mixed M_f90 _ (by kernel_rfl) ?_
      by_cases h1 : 48 ≤ c ∧ c ≤ 57
      · rw [if_pos h1]
        have e0 : ((c - 48 : Nat) : Int) = (c : Int) - 48 := by omega
        rw [e0]
        have w1 : IntKind.u8.wrap ((c : Int) - 48) = (c : Int) - 48 := wr_u8 (by omega) (by omega)
        have w2 : IntKind.u64.wrap ((c : Int) - 48) = (c : Int) - 48 := wr_u64 (by omega) (by omega)
        simp [Tryd.f90, w1, w2, show (48 : Int) ≤ (c : Int) by omega, show (c : Int) ≤ 57 by omega, show ¬ (97 : Int) ≤ (c : Int) by omega]
      · rw [if_neg h1]
        by_cases h2 : 97 ≤ c ∧ c ≤ 102
        · rw [if_pos h2]
          have e0 : ((c - 87 : Nat) : Int) = (c : Int) - 97 + 10 := by omega
          rw [e0]
          have w1 : IntKind.u8.wrap ((c : Int) - 97) = (c : Int) - 97 := wr_u8 (by omega) (by omega)
          have w2 : IntKind.u64.wrap ((c : Int) - 97) = (c : Int) - 97 := wr_u64 (by omega) (by omega)
          have w3 : IntKind.u64.wrap ((c : Int) - 97 + 10) = (c : Int) - 97 + 10 := wr_u64 (by omega) (by omega)
          simp [Tryd.f90, w1, w2, w3, show (48 : Int) ≤ (c : Int) by omega, show ¬ (c : Int) ≤ 57 by omega, show (97 : Int) ≤ (c : Int) by omega, show (c : Int) ≤ 102 by omega]
        · rw [if_neg h2]
          by_cases h3 : (48 : Int) ≤ (c : Int)
          · have h4 : ¬ (c : Int) ≤ 57 := by omega
            by_cases h5 : (97 : Int) ≤ (c : Int)
            · have h6 : ¬ (c : Int) ≤ 102 := by omega
              simp [Tryd.f90, h3, h4, h5, h6]
            · simp [Tryd.f90, h3, h4, h5]
          · have h5 : ¬ (97 : Int) ≤ (c : Int) := by omega
            simp [Tryd.f90, h3, h5]
    · cases hh
  · cases hh
theorem val_at (c : UInt8) (b : Nat) : SVal [.int .u8 (c.toNat : Int), .int .u64 (b : Int)] = some ⟨.tup [.int .u64 (vN c : Nat), .bool (decide (vN c < b))], []⟩ := by
  have := c.toNat_lt
  simp only [SVal]
  rw [if_pos ⟨by omega, by omega⟩, Int.toNat_natCast, show UInt8.ofNat c.toNat = c from by simp]
  simp
noncomputable def SNm : List V → Option Res
  | [.str s, .int .u64 b, .int .u64 lim] => ifC ((b = 10 ∨ b = 16) ∧ (0 ≤ lim ∧ lim < 18446744073709551616) ∧ s.size < 100000) (some ⟨.tup [.int .u64 ((rnum b.toNat lim.toNat s.data.toList).1 : Nat), .bool (rnum b.toNat lim.toNat s.data.toList).2], []⟩)
  | _ => none
theorem nm_at {l : List UInt8} {b lim : Nat} (hb : b = 10 ∨ b = 16) (hlim : lim < 18446744073709551616) (hl : l.length < 100000) :
    SNm [.str (bs l), .int .u64 (b : Int), .int .u64 (lim : Int)] = some ⟨.tup [.int .u64 ((rnum b lim l).1 : Nat), .bool (rnum b lim l).2], []⟩ := by
  simp only [SNm, bs_size, bs_data]
  rw [ifC_pos ⟨by omega, ⟨by omega, by omega⟩, hl⟩]
  rfl
def M_f64 : Md := fun i => some #[]
@[simp] theorem M_f64_eq {i : Nat} : M_f64 i = (some #[]) := rfl
theorem runs_ref01_Number : ∀ args r, SNm args = some r → Runs Tryd.prog 64 args r := by
  intro args r hh
  unfold SNm ifC at hh
  split at hh
  · rename_i s0 b0 lim0
    obtain ⟨l, rfl⟩ := bs_ex s0
    rw [bs_size, bs_data] at hh
    split at hh
    · rename_i hin
      obtain ⟨hb0, hlim, hlen⟩ := hin
      obtain ⟨b, rfl⟩ : ∃ k : Nat, b0 = k := ⟨b0.toNat, by omega⟩
      obtain ⟨lim, rfl⟩ : ∃ k : Nat, lim0 = k := ⟨lim0.toNat, by omega⟩
      cases hh
      simp only [Int.toNat_natCast]
      have hb : b = 10 ∨ b = 16 := by omega
      have hT : (T0.add 90 SVal).ok Tryd.prog := Tab.add_ok (T0_ok _) runs_ref01_value
      have hsz := bs_size l
      refine Runs.of_body Tryd.func64 (by decide) rfl (by simp [Tryd.f64]) ?_
      refine W.seqE hT mixed M_f64 (by kernel_rfl) ?_
      simp [Tryd.f64]
      by_cases hg : l.length = 0 ∨ 10 < l.length ∨ (1 < l.length ∧ l.head? = some 48)
      · have hr : rnum b lim l = (0, false) := by unfold rnum; rw [if_pos hg]
        rw [hr]
        refine W.cut False [] [] 55 ?_ (fun h => h.elim)
        refine W.of_WE hT mixed M_f64 _ (by kernel_rfl) ?_
        by_cases h0 : l.length = 0
        · simp [Tryd.f64, hsz, h0]
        · by_cases h1 : 10 < l.length
          · simp [Tryd.f64, hsz, h0, show (10 : Int) < l.length by omega]
          · have h2 : 1 < l.length ∧ l.head? = some 48 := by
              rcases hg with q | q | q
              · exact absurd q h0
              · exact absurd q h1
              · exact q
            obtain ⟨x, m, rfl⟩ : ∃ x m, l = x :: m := by
              cases l with
              | nil => exact absurd rfl h0
              | cons x m => exact ⟨x, m, rfl⟩
            have hx : x = 48 := by simpa using h2.2
            subst hx
            have hs : sat (bs (48 :: m)) 0 = 48 := rfl
            have hm : (48 :: m : List UInt8).length ≠ 0 := h0
            rw [List.length_cons] at hsz h1 h2
            simp [Tryd.f64, hsz, hs, show ¬ (10 : Int) < (m.length : Int) + 1 by omega, show (1 : Int) < (m.length : Int) + 1 by omega, show ¬ (m.length : Int) + 1 = 0 by omega]
      · have h0 : ¬ l.length = 0 := fun q => hg (.inl q)
        have h1 : ¬ 10 < l.length := fun q => hg (.inr (.inl q))
        have h2 : ¬ (1 < l.length ∧ l.head? = some 48) := fun q => hg (.inr (.inr q))
        refine W.cut True [(0, .str (bs l)), (1, .int .u64 b), (2, .int .u64 lim)] [] 55 ?_ ?_
        · refine W.of_WE hT mixed M_f64 _ (by kernel_rfl) ?_
          by_cases h3 : 1 < l.length
          · have hs : ¬ sat (bs l) 0 = 48 := by
              obtain ⟨x, m, rfl⟩ : ∃ x m, l = x :: m := by
                cases l with
                | nil => exact absurd rfl h0
                | cons x m => exact ⟨x, m, rfl⟩
              intro e
              apply h2
              refine ⟨h3, ?_⟩
              rw [bs_sat] at e
              have e' : ((x.toNat : Nat) : Int) = 48 := e
              have : x.toNat = 48 := by omega
              rw [List.head?_cons]
              congr 1
              exact UInt8.toNat_inj.1 this
            simp [Tryd.f64, hsz, h0, hs, show ¬ (10 : Int) < l.length by omega, show (1 : Int) < l.length by omega]
            omega
          · simp [Tryd.f64, hsz, h0, show ¬ (10 : Int) < l.length by omega, show ¬ (1 : Int) < l.length by omega]
        intro _
        refine W.seqE hT mixed M_f64 (by kernel_rfl) ?_
        simp [Tryd.f64]
        refine W.cut ((valF b 0 l).isSome = true) [(2, .int .u64 lim), (8, .int .u64 (nvF b l l.length : Nat))] [] 55 ?_ ?_
        · refine W.seqE hT mixed M_f64 (by kernel_rfl) ?_
          simp [Tryd.f64]
          refine W.block (W.for (fun k => (valF b 0 (l.take k)).isSome = true) (fun k => [(0, .str (bs l)), (1, .int .u64 b), (2, .int .u64 lim), (8, .int .u64 (nvF b l k : Nat)), (9, .int .i64 k)]) (fun _ => []) 55 l.length (by simp [valF]) ?_ ?_)
          · simp [nvF, valF]
          · intro k hk hJ
            refine W.of_WE hT mixed M_f64 _ (by kernel_rfl) ?_
            by_cases hlt : k < l.length
            · obtain ⟨st1, st2⟩ := nvF_step (b := b) (by omega) hlt hJ
              have hva := val_at l[k] b
              have hbd := nvF_bd (b := b) (by omega) (by omega) (by omega) hJ
              have hs : sat (bs l) (k : Int) = (l[k].toNat : Int) := by rw [bs_sat, Int.toNat_natCast, List.getD_eq_getElem?_getD, List.getElem?_eq_getElem hlt]; rfl
              have w1 : IntKind.i64.wrap ((k : Int) + 1) = (k : Int) + 1 := by rw [wr_i64 (by omega) (by omega)]
              by_cases hv : vN l[k] < b
              · obtain ⟨hJ', hn⟩ := st1 hv
                have hm : nvF b l k * b ≤ nvF b l k * 16 := Nat.mul_le_mul_left _ (by omega)
                have w2 : IntKind.u64.wrap (IntKind.u64.wrap ((nvF b l k : Int) * (b : Int)) + (vN l[k] : Int)) = ((nvF b l (k + 1) : Nat) : Int) := by
                  rw [hn, ← Int.natCast_mul, wr_u64 (x := ((nvF b l k * b : Nat) : Int)) (by omega) (by omega), wr_u64 (by omega) (by omega)]
                  omega
                generalize l[k] = x at *
                simp [hlt, hsz, hs, hva, hv, w1, w2, hJ']
              · have hnone := st2 hv
                have hr : rnum b lim l = (0, false) := by unfold rnum; rw [if_neg hg, hnone]
                rw [hr]
                simp [Tryd.f64, hlt, hsz, hs, hva, hv]
            · obtain rfl : k = l.length := by omega
              rw [List.take_length] at hJ
              simp [hsz, hJ]
        intro hS
        obtain ⟨m, hm⟩ := Option.isSome_iff_exists.1 hS
        have hnv : nvF b l l.length = m := by unfold nvF; rw [List.take_length, hm]; rfl
        have hr : rnum b lim l = (m, decide (m ≤ lim)) := by unfold rnum; rw [if_neg hg, hm]
        rw [hr, hnv]
        refine W.of_WE hT mixed M_f64 _ (by kernel_rfl) ?_
        simp [Tryd.f64]
    · cases hh
  · cases hh

end Go.Proofs.YtbnjijffkjcmcaaDoor.AL
namespace Go.Proofs.YtbnjijffkjcmcaaDoor.AL
open Go
attribute [local simp] qf cv qbin ibin sbin qun retPost rvOk ctV ctPost marksOk retV resAll resOf V.lt ltL V.ren renL V.exp V.exp1 cleanL V.clean closedL V.closed V.cells V.one V.tree
  loadV cellsAt isNC nilQ isSlD isIfD slNew ownRows ownCells V.isOwn slStore srcO qlook mlook mget mstr zval qnone qmake mput lmap isAggD placesOf fillV putCells lstore bound seqParts V.sh shL Blk.sh newV V.ok peqs peq srcRows qbytes byteSl appOk mmV mmR hidE V.fz fzL Blk.fz fzOk and_assoc
attribute [-simp] Int.not_le Int.not_lt Nat.not_le Nat.not_lt
/-! The reference's parts. -/
noncomputable def SPrt : List V → Option Res
  | [.str s, .int .u8 c] => ifC (s.size < 100000 ∧ 0 ≤ c ∧ c < 256) (some ⟨.own 0, [.sl 1 9 (bRows (spl (UInt8.ofNat c.toNat) s.data.toList))]⟩)
  | _ => none
theorem prt_at {l : List UInt8} (c : UInt8) (h : l.length < 100000) : SPrt [.str (bs l), .int .u8 (c.toNat : Int)] = some ⟨.own 0, [.sl 1 9 (bRows (spl c l))]⟩ := by
  have := c.toNat_lt
  simp only [SPrt, bs_size, bs_data]
  rw [ifC_pos ⟨h, by omega, by omega⟩, Int.toNat_natCast, show UInt8.ofNat c.toNat = c from by simp]
theorem bRows_snoc (ps : List (List UInt8)) (p : List UInt8) : bRows ps ++ [[.str (bs p)]] = bRows (ps ++ [p]) := by unfold bRows; rw [List.map_append]; rfl
def M_f63 : Md := fun i => some #[]
@[simp] theorem M_f63_eq {i : Nat} : M_f63 i = (some #[]) := rfl
theorem runs_ref01_Parts : ∀ args r, SPrt args = some r → Runs Tryd.prog 63 args r := by
  intro args r hh
  unfold SPrt ifC at hh
  split at hh
  · rename_i s0 c0
    obtain ⟨l, rfl⟩ := bs_ex s0
    rw [bs_size, bs_data] at hh
    split at hh
    · rename_i hin
      obtain ⟨hlen, hc0, hc1⟩ := hin
      obtain ⟨c, rfl⟩ : ∃ c : UInt8, c0 = (c.toNat : Int) := ⟨UInt8.ofNat c0.toNat, by simp; omega⟩
      cases hh
      rw [Int.toNat_natCast, show UInt8.ofNat c.toNat = c from by simp]
      have hsz := bs_size l
      have hT := T0_ok Tryd.prog
      refine Runs.of_body Tryd.func63 (by decide) rfl (by simp [Tryd.f63]) ?_
      refine W.seqE hT mixed M_f63 (by kernel_rfl) ?_
      simp [Tryd.f63]
      refine W.seqE hT mixed M_f63 (by kernel_rfl) ?_
      simp
      refine W.seqE hT mixed M_f63 (by kernel_rfl) ?_
      simp
      refine W.wk (Wk.adopt 5 1 9 (by omega) (by simp)) ?_
      refine W.cut True [(0, .str (bs l)), (5, .own 0), (6, .int .i64 ((prt c l l.length).2 : Nat))] [.sl 1 9 (bRows (prt c l l.length).1)] 34 ?_ ?_
      · refine W.seqE hT mixed M_f63 (by kernel_rfl) ?_
        simp [Tryd.f63]
        refine W.block (W.for (fun _ => True) (fun k => [(0, .str (bs l)), (1, .int .u8 c.toNat), (5, .own 0), (6, .int .i64 ((prt c l k).2 : Nat)), (7, .int .i64 k)]) (fun k => [.sl 1 9 (bRows (prt c l k).1)]) 34 l.length trivial ?_ ?_)
        · simp [prt, bRows]
        · intro k hk _
          refine W.of_WE hT mixed M_f63 _ (by kernel_rfl) ?_
          by_cases hlt : k < l.length
          · obtain ⟨p1, p2, p3, p4⟩ := prt_ok c l k hk
            have hs : sat (bs l) (k : Int) = (l[k].toNat : Int) := by rw [bs_sat, Int.toNat_natCast, List.getD_eq_getElem?_getD, List.getElem?_eq_getElem hlt]; rfl
            have hg : l.getD k 0 = l[k] := by rw [List.getD_eq_getElem?_getD, List.getElem?_eq_getElem hlt]; rfl
            have w1 : IntKind.i64.wrap ((k : Int) + 1) = (k : Int) + 1 := by rw [wr_i64 (by omega) (by omega)]
            have he := bs_extract l (prt c l k).2 k
            have hn := bRows_snoc (prt c l k).1 ((l.drop (prt c l k).2).take (k - (prt c l k).2))
            have hr := bRows_len (prt c l k).1
            have h1 : prt c l (k + 1) = if l.getD k 0 = c then ((prt c l k).1 ++ [(l.drop (prt c l k).2).take (k - (prt c l k).2)], k + 1) else prt c l k := rfl
            rw [hg] at h1
            by_cases hx : l[k] = c
            · rw [if_pos hx] at h1
              rw [h1]
              have hsc : sat (bs l) (k : Int) = (c.toNat : Int) := by rw [hs, hx]
              generalize prt c l k = P at *
              obtain ⟨ps, q⟩ := P
              simp only at *
              generalize bRows ps = R1 at *
              generalize (l.drop q).take (k - q) = p at *
              simp [hlt, hsz, hsc, w1, he, hn, hr, p1]
              omega
            · rw [if_neg hx] at h1
              rw [h1]
              have hsc : ¬ (l[k].toNat : Int) = (c.toNat : Int) := by
                intro e
                exact hx (UInt8.toNat_inj.1 (by omega))
              simp [hlt, hsz, hs, hsc, w1]
          · obtain rfl : k = l.length := by omega
            simp [hsz]
      intro _
      have hend := prt_end c l
      obtain ⟨p1, p2, p3, p4⟩ := prt_ok c l l.length (Nat.le_refl _)
      rw [hend]
      have hn := bRows_snoc (prt c l l.length).1 (l.drop (prt c l l.length).2)
      have he : (bs l).extract (prt c l l.length).2 l.length = bs (l.drop (prt c l l.length).2) := by rw [bs_extract, List.take_of_length_le (by simp)]
      have hr := bRows_len (prt c l l.length).1
      generalize prt c l l.length = P at *
      obtain ⟨ps, q⟩ := P
      simp only at *
      rw [← hn]
      generalize bRows ps = R1 at *
      refine W.of_WE hT mixed M_f63 _ (by kernel_rfl) ?_
      simp [Tryd.f63, hsz, he, hr]
      omega
    · cases hh
  · cases hh

end Go.Proofs.YtbnjijffkjcmcaaDoor.AL
namespace Go.Proofs.YtbnjijffkjcmcaaDoor.AL
open Go
/-! The reference's reading of an address, in the order in which it is done. -/
def rgL (c : UInt8) (b lim : Nat) (l : List UInt8) : List Nat := (rgr c b lim l).getD []
def is6 (l : List UInt8) : Bool := match cut2 l with
  | some (a, b) => (rgr 58 16 65535 a).isSome && (rgr 58 16 65535 b).isSome
  | none => (rgr 58 16 65535 l).isSome
def L6 (l : List UInt8) : List Nat := match cut2 l with
  | some (a, b) => rgL 58 16 65535 a ++ List.replicate (8 - ((rgL 58 16 65535 a).length + (rgL 58 16 65535 b).length)) 0 ++ rgL 58 16 65535 b
  | none => rgL 58 16 65535 l
theorem r6_eq (l : List UInt8) : r6 l = if is6 l = true then some (L6 l) else none := by
  unfold r6 is6 L6 rgL
  cases cut2 l with
  | some p =>
    obtain ⟨a, b⟩ := p
    simp only
    cases rgr 58 16 65535 a with
    | none => rfl
    | some x =>
      cases rgr 58 16 65535 b with
      | none => rfl
      | some y => rfl
  | none =>
    simp only
    cases rgr 58 16 65535 l <;> rfl
theorem ra6_eq' (l : List UInt8) : ra6 l = if is6 l = true ∧ (L6 l).length = 8 ∧ addrT 6 ((L6 l).foldl putN (0, 0)).1 ((L6 l).foldl putN (0, 0)).2 = l then some (6, (L6 l).foldl putN (0, 0)) else none := by
  unfold ra6
  rw [r6_eq]
  by_cases h : is6 l = true
  · rw [if_pos h]
    simp only [h, true_and]
  · rw [if_neg h, if_neg (fun q => h q.1)]
theorem fold8 {a b c d e f g h : Nat} (ha : a < 65536) (hb : b < 65536) (hc : c < 65536) (hd : d < 65536) (he : e < 65536) (hf : f < 65536) (hg : g < 65536) (hh : h < 65536) :
    [a, b, c, d, e, f, g, h].foldl putN (0, 0) = (((a * 65536 + b) * 65536 + c) * 65536 + d, ((e * 65536 + f) * 65536 + g) * 65536 + h) := by
  have key : ∀ {a b c d : Nat}, a < 65536 → b < 65536 → c < 65536 → d < 65536 → grpN (((a * 65536 + b) * 65536 + c) * 65536 + d) 0 = a ∧ grpN (((a * 65536 + b) * 65536 + c) * 65536 + d) 1 = b ∧ grpN (((a * 65536 + b) * 65536 + c) * 65536 + d) 2 = c ∧ grpN (((a * 65536 + b) * 65536 + c) * 65536 + d) 3 = d := by
    intro a b c d ha hb hc hd
    unfold grpN
    simp only [Nat.reduceMul, Nat.reduceSub, Nat.reducePow]
    omega
  have e1 := key ha hb hc hd
  have e2 := key he hf hg hh
  have := putN_G8 (h := ((a * 65536 + b) * 65536 + c) * 65536 + d) (l := ((e * 65536 + f) * 65536 + g) * 65536 + h) (by omega) (by omega)
  unfold G8 at this
  rwa [e1.1, e1.2.1, e1.2.2.1, e1.2.2.2, e2.1, e2.2.1, e2.2.2.1, e2.2.2.2] at this
def cc (l : List UInt8) (k : Nat) : Bool := l.getD k 0 == 58 && l.getD (k + 1) 0 == 58
theorem cc_iff {l : List UInt8} {k : Nat} : cc l k = true ↔ l.getD k 0 = 58 ∧ l.getD (k + 1) 0 = 58 := by simp [cc]
/-- Where the two colons stand, behind so many rounds. -/
def atS (l : List UInt8) : Nat → Int
  | 0 => -1
  | k + 1 => if atS l k < 0 then (if cc l k = true then (k : Int) else -1) else atS l k
theorem atS_ok (l : List UInt8) : ∀ k, (atS l k = -1 ∧ ∀ j, j < k → cc l j = false) ∨ (∃ j : Nat, j < k ∧ atS l k = j ∧ cc l j = true ∧ ∀ i, i < j → cc l i = false)
  | 0 => .inl ⟨rfl, fun j h => by omega⟩
  | k + 1 => by
    rcases atS_ok l k with ⟨h1, h2⟩ | ⟨j, h1, h2, h3, h4⟩
    · by_cases hc : cc l k = true
      · refine .inr ⟨k, by omega, ?_, hc, h2⟩
        unfold atS; rw [h1, if_pos (by omega), if_pos hc]
      · refine .inl ⟨?_, fun j hj => ?_⟩
        · unfold atS; rw [h1, if_pos (by omega), if_neg hc]
        · by_cases e : j = k
          · rw [e]; simpa using hc
          · exact h2 j (by omega)
    · refine .inr ⟨j, by omega, ?_, h3, h4⟩
      unfold atS; rw [h2, if_neg (by omega)]
def atV (l : List UInt8) : Int := match cut2 l with
  | some (a, _) => a.length
  | none => -1
theorem atV_end {l : List UInt8} {k : Nat} (hk : l.length ≤ k + 1) (hk' : k ≤ l.length) (h0 : k + 1 ≤ l.length ∨ l.length = 0) (hn : atS l k = -1 ∨ True) : atS l k = atV l := by
  rcases atS_ok l k with ⟨h1, h2⟩ | ⟨j, h1, h2, h3, h4⟩
  · have : cut2 l = none := cut2_no (fun i hi => by
      have := h2 i (by omega)
      intro q
      rw [cc_iff.2 q] at this
      cases this)
    unfold atV
    rw [this, h1]
  · have hc := cc_iff.1 h3
    have : cut2 l = some (l.take j, l.drop (j + 2)) := cut2_at (by omega) hc.1 hc.2 (fun i hi q => by
      have := h4 i hi
      rw [cc_iff.2 q] at this
      cases this)
    unfold atV
    rw [this, h2]
    simp
    omega
theorem atV_found {l : List UInt8} {k : Nat} (hk : k + 1 ≤ l.length) (h : ¬ atS l k < 0) : atS l k = atV l := by
  rcases atS_ok l k with ⟨h1, h2⟩ | ⟨j, h1, h2, h3, h4⟩
  · omega
  · have hc := cc_iff.1 h3
    have : cut2 l = some (l.take j, l.drop (j + 2)) := cut2_at (by omega) hc.1 hc.2 (fun i hi q => by
      have := h4 i hi
      rw [cc_iff.2 q] at this
      cases this)
    unfold atV
    rw [this, h2]
    simp
    omega
theorem atS_rng (l : List UInt8) (k : Nat) : -1 ≤ atS l k ∧ atS l k < k ∨ atS l k = -1 := by
  rcases atS_ok l k with ⟨h1, h2⟩ | ⟨j, h1, h2, h3, h4⟩ <;> omega
theorem cut2_parts {l a b : List UInt8} (h : cut2 l = some (a, b)) : a = l.take a.length ∧ b = l.drop (a.length + 2) ∧ a.length + 2 ≤ l.length := by
  have e := cut2_some h
  refine ⟨?_, ?_, ?_⟩
  · conv => rhs; rw [e]
    simp
  · conv => rhs; rw [e]
    rw [List.drop_append]
    simp
  · rw [e]; simp
theorem rgr_len {c : UInt8} {b lim : Nat} {l : List UInt8} {L : List Nat} (h : rgr c b lim l = some L) : L.length ≤ l.length + 1 := by
  unfold rgr at h
  split at h
  · cases h; simp
  · rw [rgs_all] at h
    split at h
    · cases h
      have := spl_len c l
      simp; omega
    · cases h
def n4 (a b c d : Nat) : Nat := ((a * 65536 + b) * 65536 + c) * 65536 + d
theorem n4_lt {a b c d : Nat} (ha : a < 65536) (hb : b < 65536) (hc : c < 65536) (hd : d < 65536) : n4 a b c d < 18446744073709551616 := by unfold n4; omega
theorem n4_cast (a b c d : Nat) : ((n4 a b c d : Nat) : Int) = (((a : Int) * 65536 + b) * 65536 + c) * 65536 + d := by
  unfold n4
  rw [Int.natCast_add, Int.natCast_mul, Int.natCast_add, Int.natCast_mul, Int.natCast_add, Int.natCast_mul]
  rfl
theorem n4_wrap {a b c d : Nat} (ha : a < 65536) (hb : b < 65536) (hc : c < 65536) (hd : d < 65536) :
    IntKind.u64.wrap (IntKind.u64.wrap (IntKind.u64.wrap (IntKind.u64.wrap (IntKind.u64.wrap (IntKind.u64.wrap ((a : Int) * 65536) + b) * 65536) + c) * 65536) + d) = ((n4 a b c d : Nat) : Int) := by
  rw [n4_cast]
  simp only [wrap_u64]
  omega
theorem fold8' {a b c d e f g h : Nat} (ha : a < 65536) (hb : b < 65536) (hc : c < 65536) (hd : d < 65536) (he : e < 65536) (hf : f < 65536) (hg : g < 65536) (hh : h < 65536) :
    [a, b, c, d, e, f, g, h].foldl putN (0, 0) = (n4 a b c d, n4 e f g h) := fold8 ha hb hc hd he hf hg hh
end Go.Proofs.YtbnjijffkjcmcaaDoor.AL

import Derived.Test.YtbnjijffkjcmcaaDoorZAL3
/- A logic of abstract values for walking functions: a part of the proof; no conditions. -/
set_option linter.unusedVariables false
set_option linter.unusedSimpArgs false
set_option linter.unusedSectionVars false
namespace Go.Proofs.YtbnjijffkjcmcaaDoor.AL
open Go
theorem nr {α : Sort _} {a b : α} (h : a = b) : a = b := h
/-! ### The rules, laid out for evaluation: outermost first, one branch at a time -/
theorem St.put_tm (s : St) (d : Nat) (v : V) (t : Nat) : (s.put (some d) v).tm t = if t = d then v else s.tm t := nr rfl
theorem St.put_none (s : St) (v : V) : s.put none v = s := nr rfl
theorem St.put_hp (s : St) (d : Option Tmp) (v : V) : (s.put d v).hp = s.hp := by cases d <;> rfl
theorem St.put_nx (s : St) (d : Option Tmp) (v : V) : (s.put d v).nx = s.nx := by cases d <;> rfl
theorem St.put_nt (s : St) (d : Option Tmp) (v : V) : (s.put d v).nt = s.nt := by cases d <;> rfl
theorem St.put_top (s : St) (d : Option Tmp) (v : V) : (s.put d v).top = s.top := by cases d <;> rfl
theorem St.put_df (s : St) (d : Option Tmp) (v : V) : (s.put d v).df = s.df := by cases d <;> rfl
theorem St.put_kp (s : St) (d : Option Tmp) (v : V) : (s.put d v).kp = s.kp := by cases d <;> rfl
theorem St.setB_tm (s : St) (b : Nat) (x : Blk) : (s.setB b x).tm = s.tm := nr rfl
theorem St.setB_hp (s : St) (b : Nat) (x : Blk) (y : Nat) : (s.setB b x).hp y = if y = b then some x else s.hp y := nr rfl
theorem St.setB_nx (s : St) (b : Nat) (x : Blk) : (s.setB b x).nx = s.nx := nr rfl
theorem St.setB_nt (s : St) (b : Nat) (x : Blk) : (s.setB b x).nt = s.nt := nr rfl
theorem St.setB_top (s : St) (b : Nat) (x : Blk) : (s.setB b x).top = s.top := nr rfl
theorem St.setB_df (s : St) (b : Nat) (x : Blk) : (s.setB b x).df = s.df := nr rfl
theorem St.setB_kp (s : St) (b : Nat) (x : Blk) : (s.setB b x).kp = s.kp := nr rfl
theorem St.rmB_tm (s : St) (b : Nat) : (s.rmB b).tm = s.tm := nr rfl
theorem St.rmB_hp (s : St) (b : Nat) (y : Nat) : (s.rmB b).hp y = if y = b then none else s.hp y := nr rfl
theorem St.rmB_nx (s : St) (b : Nat) : (s.rmB b).nx = s.nx := nr rfl
theorem St.rmB_nt (s : St) (b : Nat) : (s.rmB b).nt = s.nt := nr rfl
theorem St.rmB_top (s : St) (b : Nat) : (s.rmB b).top = s.top := nr rfl
theorem St.rmB_df (s : St) (b : Nat) : (s.rmB b).df = s.df := nr rfl
theorem St.rmB_kp (s : St) (b : Nat) : (s.rmB b).kp = s.kp := nr rfl
theorem St.setN_tm (s : St) (n : Nat) : (s.setN n).tm = s.tm := nr rfl
theorem St.setN_hp (s : St) (n : Nat) : (s.setN n).hp = s.hp := nr rfl
theorem St.setN_nx (s : St) (n : Nat) : (s.setN n).nx = n := nr rfl
theorem St.setN_nt (s : St) (n : Nat) : (s.setN n).nt = s.nt := nr rfl
theorem St.setN_top (s : St) (n : Nat) : (s.setN n).top = s.top := nr rfl
theorem St.setN_df (s : St) (n : Nat) : (s.setN n).df = s.df := nr rfl
theorem St.setN_kp (s : St) (n : Nat) : (s.setN n).kp = s.kp := nr rfl
theorem St.putB_tm (s : St) (n : Nat) (bs : List Blk) : (s.putB n bs).tm = s.tm := nr rfl
theorem St.putB_nil (s : St) (n : Nat) : s.putB n [] = s := nr rfl
theorem St.putB_cons (s : St) (n : Nat) (b : Blk) (bs : List Blk) : s.putB n (b :: bs) = (s.setB n b).putB (n + 1) bs := nr rfl
theorem St.putB_nx (s : St) (n : Nat) (bs : List Blk) : (s.putB n bs).nx = s.nx := nr rfl
theorem St.putB_nt (s : St) (n : Nat) (bs : List Blk) : (s.putB n bs).nt = s.nt := nr rfl
theorem St.putB_top (s : St) (n : Nat) (bs : List Blk) : (s.putB n bs).top = s.top := nr rfl
theorem St.putB_df (s : St) (n : Nat) (bs : List Blk) : (s.putB n bs).df = s.df := nr rfl
theorem St.putB_kp (s : St) (n : Nat) (bs : List Blk) : (s.putB n bs).kp = s.kp := nr rfl
theorem St.back_tm (s s' : St) : (s.back s').tm = s.tm := nr rfl
theorem St.back_hp (s s' : St) : (s.back s').hp = s'.hp := nr rfl
theorem St.back_nx (s s' : St) : (s.back s').nx = s'.nx := nr rfl
theorem St.back_nt (s s' : St) : (s.back s').nt = s.nt := nr rfl
theorem St.back_top (s s' : St) : (s.back s').top = s.top := nr rfl
theorem St.back_df (s s' : St) : (s.back s').df = s.df := nr rfl
theorem St.back_kp (s s' : St) : (s.back s').kp = s.kp := nr rfl
theorem St.enter_tm (s : St) (args : List V) (nt t : Nat) : (s.enter args nt).tm t = args.getD t .junk := nr rfl
theorem St.enter_hp (s : St) (args : List V) (nt : Nat) : (s.enter args nt).hp = s.hp := nr rfl
theorem St.enter_nx (s : St) (args : List V) (nt : Nat) : (s.enter args nt).nx = s.nx := nr rfl
theorem St.enter_nt (s : St) (args : List V) (nt : Nat) : (s.enter args nt).nt = nt := nr rfl
theorem St.enter_top (s : St) (args : List V) (nt : Nat) : (s.enter args nt).top = true := nr rfl
theorem St.enter_df (s : St) (args : List V) (nt : Nat) : (s.enter args nt).df = [] := nr rfl
theorem St.enter_kp (s : St) (args : List V) (nt : Nat) : (s.enter args nt).kp = true := nr rfl
theorem St.unmark_tm (s : St) : s.unmark.tm = s.tm := nr rfl
theorem St.unmark_hp (s : St) (b : Nat) : s.unmark.hp b = if s.df.contains b then none else s.hp b := nr rfl
theorem St.unmark_nx (s : St) : s.unmark.nx = s.nx := nr rfl
theorem St.unmark_df (s : St) : s.unmark.df = [] := nr rfl
theorem initSt_tm (args : List V) (nt t : Nat) : (initSt args nt).tm t = args.getD t .junk := nr rfl
theorem initSt_hp (args : List V) (nt b : Nat) : (initSt args nt).hp b = none := nr rfl
theorem initSt_nx (args : List V) (nt : Nat) : (initSt args nt).nx = 0 := nr rfl
theorem initSt_nt (args : List V) (nt : Nat) : (initSt args nt).nt = nt := nr rfl
theorem initSt_top (args : List V) (nt : Nat) : (initSt args nt).top = true := nr rfl
theorem initSt_df (args : List V) (nt : Nat) : (initSt args nt).df = [] := nr rfl
theorem initSt_kp (args : List V) (nt : Nat) : (initSt args nt).kp = true := nr rfl

/-- What an operation asks in the text's order, the next name told apart from the state. -/
def orE (r : OR) (dst : Option Tmp) (n : Nat) (s : St) (K : Nat → St → Prop) (X : V → St → Prop) : Prop :=
  match r with
  | .val c v => c ∧ K (n + 8) (s.put dst v)
  | .new c m b v => c ∧ K (n + 8) ((s.setB m b).put dst v)
  | .store c b x => c ∧ K (n + 8) ((s.setB b x).put dst .junk)
  | .grow c b m x => c ∧ K (n + 8) (((s.rmB b).setB m x).put dst (.own m))
  | .call c m bs v => c ∧ K (n + 8) ((s.putB m bs).put dst v)
  | .panic c v => c ∧ X v (s.setN n)
  | .ctr c f => c ∧ f (fun v s' => K s'.nx ((s.back s').put dst v)) (fun v s' => X v (s.back s'))
  | .bad => False
@[congr] theorem orE_congr {r r' : OR} {dst : Option Tmp} {n : Nat} {s : St} {K : Nat → St → Prop} {X : V → St → Prop} (h : r = r') : orE r dst n s K X = orE r' dst n s K X := by rw [h]
@[congr] theorem orK_congr {r r' : OR} {dst : Option Tmp} {s : St} {K : St → Prop} {X : V → St → Prop} (h : r = r') : orK r dst s K X = orK r' dst s K X := by rw [h]
section
variable {dst : Option Tmp} {s : St} {K : Nat → St → Prop} {X : V → St → Prop} {c : Prop} {v : V} {n m b : Nat} {x : Blk} {bs : List Blk}
theorem orE_bad : orE .bad dst n s K X = False := rfl
theorem orE_val : orE (.val c v) dst n s K X = (c ∧ K (n + 8) (s.put dst v)) := rfl
theorem orE_new : orE (.new c m x v) dst n s K X = (c ∧ K (n + 8) ((s.setB m x).put dst v)) := rfl
theorem orE_store : orE (.store c b x) dst n s K X = (c ∧ K (n + 8) ((s.setB b x).put dst .junk)) := rfl
theorem orE_grow : orE (.grow c b m x) dst n s K X = (c ∧ K (n + 8) (((s.rmB b).setB m x).put dst (.own m))) := rfl
theorem orE_call : orE (.call c m bs v) dst n s K X = (c ∧ K (n + 8) ((s.putB m bs).put dst v)) := rfl
theorem orE_panic : orE (.panic c v) dst n s K X = (c ∧ X v (s.setN n)) := rfl
theorem orE_ctr {f} : orE (.ctr c f) dst n s K X = (c ∧ f (fun v s' => K s'.nx ((s.back s').put dst v)) (fun v s' => X v (s.back s'))) := rfl
theorem orE_val_t : orE (.val True v) dst n s K X = K (n + 8) (s.put dst v) := by simp [orE]
theorem orE_new_t : orE (.new True m x v) dst n s K X = K (n + 8) ((s.setB m x).put dst v) := by simp [orE]
theorem orE_store_t : orE (.store True b x) dst n s K X = K (n + 8) ((s.setB b x).put dst .junk) := by simp [orE]
theorem orE_grow_t : orE (.grow True b m x) dst n s K X = K (n + 8) (((s.rmB b).setB m x).put dst (.own m)) := by simp [orE]
theorem orE_call_t : orE (.call True m bs v) dst n s K X = K (n + 8) ((s.putB m bs).put dst v) := by simp [orE]
theorem orE_panic_t : orE (.panic True v) dst n s K X = X v (s.setN n) := by simp [orE]
theorem orE_ctr_t {f} : orE (.ctr True f) dst n s K X = f (fun v s' => K s'.nx ((s.back s').put dst v)) (fun v s' => X v (s.back s')) := by simp [orE]
theorem orE_ite {p : Prop} [Decidable p] {r r' : OR} : orE (if p then r else r') dst n s K X = ((p → orE r dst n s K X) ∧ (¬ p → orE r' dst n s K X)) := by
  by_cases h : p <;> simp [h]
end
section
variable {dst : Option Tmp} {s : St} {K : St → Prop} {X : V → St → Prop} {c : Prop} {v : V} {n b : Nat} {x : Blk} {bs : List Blk}
theorem orK_bad : orK .bad dst s K X = False := rfl
theorem orK_val : orK (.val c v) dst s K X = (c ∧ K (s.put dst v)) := rfl
theorem orK_new : orK (.new c n x v) dst s K X = (c ∧ K ((s.setB n x).put dst v)) := rfl
theorem orK_store : orK (.store c b x) dst s K X = (c ∧ K ((s.setB b x).put dst .junk)) := rfl
theorem orK_grow : orK (.grow c b n x) dst s K X = (c ∧ K (((s.rmB b).setB n x).put dst (.own n))) := rfl
theorem orK_call : orK (.call c n bs v) dst s K X = (c ∧ K ((s.putB n bs).put dst v)) := rfl
theorem orK_val_t : orK (.val True v) dst s K X = K (s.put dst v) := by simp [orK]
theorem orK_new_t : orK (.new True n x v) dst s K X = K ((s.setB n x).put dst v) := by simp [orK]
theorem orK_store_t : orK (.store True b x) dst s K X = K ((s.setB b x).put dst .junk) := by simp [orK]
theorem orK_grow_t : orK (.grow True b n x) dst s K X = K (((s.rmB b).setB n x).put dst (.own n)) := by simp [orK]
theorem orK_call_t : orK (.call True n bs v) dst s K X = K ((s.putB n bs).put dst v) := by simp [orK]
theorem orK_ite {p : Prop} [Decidable p] {r r' : OR} : orK (if p then r else r') dst s K X = ((p → orK r dst s K X) ∧ (¬ p → orK r' dst s K X)) := by
  by_cases h : p <;> simp [h]
end
theorem orQ_val {d c : Prop} {n : Nat} {v : V} : orQ d n (.val c v) = .val (d ∧ c) v := nr (by simp only [orQ])
theorem orQ_new {d c : Prop} {n : Nat} {b : Blk} : orQ d n (.new c b) = .new (d ∧ c) n b (newV n b) := nr (by simp only [orQ])
theorem orQ_bad {d : Prop} {n : Nat} : orQ d n .bad = .bad := by simp only [orQ]
theorem orC_some {d : Prop} {n : Nat} {x y : List V} {r : Res} : orC d n x y (some r) = .call (d ∧ r.bs.length ≤ 8 ∧ cleanL x = true ∧ (cleanL y = true ∨ (r.v.closed = true ∧ ∀ b ∈ r.bs, b.closed))) n (r.bs.map (Blk.sh n)) (r.v.sh n) := by simp only [orC]
theorem orC_none {d : Prop} {n : Nat} {x y : List V} : orC d n x y none = .bad := by simp only [orC]
theorem orC_ite {d : Prop} {n : Nat} {x y : List V} {p : Prop} [Decidable p] {r r' : Option Res} : orC d n x y (if p then r else r') = if p then orC d n x y r else orC d n x y r' := by
  by_cases h : p <;> simp [h]
theorem orFC_none {T : Tab} {d : Prop} {n : Nat} {g : FuncId} {x y : List V} {s : St} : orFC T d n g x y s none = orC d n x y (T.R g x) := nr (by simp only [orFC])
theorem orFC_some {T : Tab} {d : Prop} {n : Nat} {g : FuncId} {x y : List V} {s : St} {C : Ct} : orFC T d n g x y s (some C) = .ctr (d ∧ n = s.nx) (C y s) := nr (by simp only [orFC])
theorem orY_some {d : Prop} {n b : Nat} {y : List V} {s : St} {Y : Nat → Ct} : orY d n b y s (some Y) = .ctr (d ∧ n = s.nx) (Y b y s) := by simp only [orY]
theorem orF_fn {T : Tab} {d : Prop} {n : Nat} {x y : List V} {s : St} {g : FuncId} {fi caps : List V} : orF T d n x y s (.fn g fi caps) = orFC T d n g (fi ++ x ++ caps) (fi ++ y ++ caps) s (T.C g) := nr (by simp only [orF])
theorem orF_yld {T : Tab} {d : Prop} {n b : Nat} {x y : List V} {s : St} : orF T d n x y s (.yld b) = orY d n b y s T.Y := nr (by simp only [orF])
theorem orL_store {d c : Prop} {b : Nat} {y : Blk} : orL d (.store c b y) = .store (d ∧ c) b y := by simp only [orL]
theorem orL_bad {d : Prop} : orL d .bad = .bad := by simp only [orL]
theorem orV_val {d c : Prop} {v : V} : orV d (.val c v) = .val (d ∧ c) v := by simp only [orV]
theorem orV_bad {d : Prop} : orV d .bad = .bad := by simp only [orV]
theorem orP_iface {t : TypeId} {v : V} : orP (.iface t v) = .panic True (.iface t v) := by simp only [orP]
section
variable {P : Program} [Gl P] {T : Tab} {dst : Option Tmp} {n : Nat} {hv : Nat → Option Blk} {s : St}
theorem opR_move {x0} : opR P T dst n hv s (.move x0) = .val (dstOk s dst) (ev P s x0) := nr (by simp [opR, qf, orQ])
theorem opR_assign {x0} : opR P T dst n hv s (.assign x0) = .val (dstOk s dst) (ev P s x0) := nr (by simp [opR, qf, orQ])
def pickR (d : Prop) (c a b : V) : OR := match c with
  | .bool t => .val d (if t then a else b)
  | _ => .bad
theorem pickR_t {d : Prop} {a b : V} : pickR d (.bool true) a b = .val d a := nr (by simp [pickR])
theorem pickR_f {d : Prop} {a b : V} : pickR d (.bool false) a b = .val d b := nr (by simp [pickR])
theorem pickR_b {d : Prop} {a b : V} {t : Bool} : pickR d (.bool t) a b = .val d (if t then a else b) := nr (by simp [pickR])
theorem pickR_cg {d : Prop} {a b c c' : V} (h : c = c') : pickR d c a b = pickR d c' a b := by rw [h]
theorem opR_pick {x0 x1 x2} : opR P T dst n hv s (.pick x0 x1 x2) = pickR (dstOk s dst) (ev P s x0) (ev P s x1) (ev P s x2) := nr (by simp only [opR, qf, pickR]; cases ev P s x0 <;> simp [orQ])
theorem opR_alloc {x0} : opR P T dst n hv s (.alloc x0) = orQ (dstOk s dst) n (qf P hv (ev P s) (.alloc x0)) := nr (by simp only [opR])
theorem opR_box {x0 x1} : opR P T dst n hv s (.box x0 x1) = orQ (dstOk s dst) n (qf P hv (ev P s) (.box x0 x1)) := nr (by simp only [opR])
theorem opR_load {x0 x1} : opR P T dst n hv s (.load x0 x1) = orQ (dstOk s dst) n (qf P hv (ev P s) (.load x0 x1)) := nr (by simp only [opR])
theorem opR_nilCheck {x0} : opR P T dst n hv s (.nilCheck x0) = orQ (dstOk s dst) n (qf P hv (ev P s) (.nilCheck x0)) := nr (by simp only [opR])
theorem opR_binOp {x0 x1 x2 x3 x4} : opR P T dst n hv s (.binOp x0 x1 x2 x3 x4) = orQ (dstOk s dst) n (qbin P x0 x1 (isNC x2 || isNC x3) (ev P s x2) (ev P s x3)) := nr (by simp only [opR, qf])
theorem opR_unOp {x0 x1 x2} : opR P T dst n hv s (.unOp x0 x1 x2) = orQ (dstOk s dst) n (qun x0 (ev P s x2)) := nr (by simp only [opR, qf])
theorem opR_convert {x0 x1 x2} : opR P T dst n hv s (.convert x0 x1 x2) = orQ (dstOk s dst) n (qf P hv (ev P s) (.convert x0 x1 x2)) := nr (by simp only [opR])
theorem opR_makeInterface {x0 x1} : opR P T dst n hv s (.makeInterface x0 x1) = orQ (dstOk s dst) n (qf P hv (ev P s) (.makeInterface x0 x1)) := nr (by simp only [opR])
theorem opR_makeFunc {x0 x1 x2} : opR P T dst n hv s (.makeFunc x0 x1 x2) = orQ (dstOk s dst) n (qf P hv (ev P s) (.makeFunc x0 x1 x2)) := nr (by simp only [opR])
theorem opR_slice {x0 x1 x2 x3 x4} : opR P T dst n hv s (.slice x0 x1 x2 x3 x4) = orQ (dstOk s dst) n (qf P hv (ev P s) (.slice x0 x1 x2 x3 x4)) := nr (by simp only [opR])
theorem opR_fieldAddr {x0 x1 x2} : opR P T dst n hv s (.fieldAddr x0 x1 x2) = orQ (dstOk s dst) n (qf P hv (ev P s) (.fieldAddr x0 x1 x2)) := nr (by simp only [opR])
theorem opR_field {x0 x1 x2} : opR P T dst n hv s (.field x0 x1 x2) = orQ (dstOk s dst) n (qf P hv (ev P s) (.field x0 x1 x2)) := nr (by simp only [opR])
theorem opR_indexAddr {x0 x1 x2} : opR P T dst n hv s (.indexAddr x0 x1 x2) = orQ (dstOk s dst) n (qf P hv (ev P s) (.indexAddr x0 x1 x2)) := nr (by simp only [opR])
theorem opR_index {x0 x1 x2} : opR P T dst n hv s (.index x0 x1 x2) = orQ (dstOk s dst) n (qf P hv (ev P s) (.index x0 x1 x2)) := nr (by simp only [opR])
theorem opR_extract {x0 x1} : opR P T dst n hv s (.extract x0 x1) = orQ (dstOk s dst) n (qf P hv (ev P s) (.extract x0 x1)) := nr (by simp only [opR])
theorem opR_build {x0 x1} : opR P T dst n hv s (.build x0 x1) = orQ (dstOk s dst) n (qf P hv (ev P s) (.build x0 x1)) := nr (by simp only [opR])
theorem opR_buildSlice {x0 x1 x2} : opR P T dst n hv s (.buildSlice x0 x1 x2) = orQ (dstOk s dst) n (qf P hv (ev P s) (.buildSlice x0 x1 x2)) := nr (by simp only [opR])
theorem opR_makeSlice {x0 x1 x2} : opR P T dst n hv s (.makeSlice x0 x1 x2) = orQ (dstOk s dst) n (qf P hv (ev P s) (.makeSlice x0 x1 x2)) := nr (by simp only [opR])
theorem opR_lookup {x0 x1 x2 x3} : opR P T dst n hv s (.lookup x0 x1 x2 x3) = orQ (dstOk s dst) n (qf P hv (ev P s) (.lookup x0 x1 x2 x3)) := nr (by simp only [opR])
theorem opR_makeMap {x0 x1} : opR P T dst n hv s (.makeMap x0 x1) = orQ (dstOk s dst) n (qf P hv (ev P s) (.makeMap x0 x1)) := nr (by simp only [opR])
theorem opR_typeAssert {x0 x1 x2 x3} : opR P T dst n hv s (.typeAssert x0 x1 x2 x3) = orQ (dstOk s dst) n (qf P hv (ev P s) (.typeAssert x0 x1 x2 x3)) := nr (by simp only [opR])
theorem opR_store {t p x} : opR P T dst n hv s (.store t p x) = orL (dstOk s dst) (lstore P hv (ev P s) t p x) := nr (by simp only [opR])
theorem opR_mapUpdate {t m k x} : opR P T dst n hv s (.mapUpdate t m k x) = orL (dstOk s dst) (lmap P hv (ev P s) t m k x) := nr (by simp only [opR])
theorem opR_panic {x} : opR P T dst n hv s (.panic x) = orP (ev P s x) := nr (by simp only [opR])
theorem opR_callf {f : Operand} {as : List Operand} {ts : Array TypeId} : opR P T dst n hv s (.call { callee := .value f, args := as.toArray, argTypes := ts }) = orF T (dstOk s dst) n (as.map fun x => (ev P s x).exp hv) (as.map (ev P s)) s (ev P s f) := nr (by simp only [opR])
theorem opR_append {x y : Operand} {t t' : TypeId} : opR P T dst n hv s (.call { callee := .builtin .append, args := #[x, y], argTypes := #[t, t'] }) = (match P.underlying t with
          | some (.slice el) => orA P (dstOk s dst ∧ t' = t) el n hv (ev P s x) (srcO hv (ev P s y)) (srcRows (P.cellsOf el) hv (ev P s y))
          | _ => .bad) := by simp only [opR]; rfl
theorem opR_max {as ts} : opR P T dst n hv s (.call { callee := .builtin .max, args := as, argTypes := ts }) = orV (dstOk s dst) (qf P hv (ev P s) (.call { callee := .builtin .max, args := as, argTypes := ts })) := by
  simp only [opR]
theorem opR_min {as ts} : opR P T dst n hv s (.call { callee := .builtin .min, args := as, argTypes := ts }) = orV (dstOk s dst) (qf P hv (ev P s) (.call { callee := .builtin .min, args := as, argTypes := ts })) := by
  simp only [opR]
theorem opR_len {as ts} : opR P T dst n hv s (.call { callee := .builtin .len, args := as, argTypes := ts }) = orV (dstOk s dst) (qf P hv (ev P s) (.call { callee := .builtin .len, args := as, argTypes := ts })) := by
  simp only [opR]
theorem ev_tmp {t : Nat} : ev P s (.tmp t) = s.tm t := nr (by simp only [ev])
theorem ev_const {v : Value} : ev P s (.const v) = cv v := nr (by simp only [ev])
theorem ev_func {f : FuncId} : ev P s (.func f) = .fn f [] [] := nr (by simp only [ev])
theorem ev_global {g : Nat} : ev P s (.global g) = Gl.gv P g := nr (by simp only [ev])
end

/-! Guards and branches -/
def gK (o : Option Bool) (A B : Prop) : Prop :=
  match o with
  | some b => (b = true → A) ∧ (b = false → B)
  | none => False
@[congr] theorem gK_congr {o o' : Option Bool} {A B : Prop} (h : o = o') : gK o A B = gK o' A B := by rw [h]
theorem gK_none {A B : Prop} : gK none A B = False := rfl
theorem gK_true {A B : Prop} : gK (some true) A B = A := by simp [gK]
theorem gK_false {A B : Prop} : gK (some false) A B = B := by simp [gK]
theorem gK_some {b : Bool} {A B : Prop} : gK (some b) A B = ((b = true → A) ∧ (b = false → B)) := rfl
def asB : V → Option Bool
  | .bool b => some b
  | _ => none
theorem asB_bool {b : Bool} : asB (.bool b) = some b := nr (by simp only [asB])
/-- A branch. -/
def cK (v : V) (A B : Prop) : Prop :=
  match v with
  | .bool b => gK (some b) A B
  | .bany => A ∧ B
  | _ => False
@[congr] theorem cK_congr {v v' : V} {A B : Prop} (h : v = v') : cK v A B = cK v' A B := by rw [h]
theorem cK_bool {b : Bool} {A B : Prop} : cK (.bool b) A B = gK (some b) A B := nr rfl
theorem cK_any {A B : Prop} : cK .bany A B = (A ∧ B) := nr rfl
def opDst : Option Oper → Option Tmp
  | some o => o.dst
  | none => none
def gB (s : St) : Option Tmp → Option Bool
  | some t => asB (s.tm t)
  | none => none
/-- What a guard finds: is the operation wanted? -/
def asG (want : Bool) : V → Option Bool
  | .bool b => some (b == want)
  | .tup [] => some false
  | _ => none
def gT (s : St) : Option Tmp → V
  | some t => s.tm t
  | none => .junk
theorem gT_some {s : St} {t : Nat} : gT s (some t) = s.tm t := nr (by simp only [gT])
theorem gval_eq {ops : Array Oper} {s : St} {j : Nat} {want : Bool} : gval ops s j want = asG want (gT s (opDst (ops.toList[j]?))) := by
  unfold gval gT opDst
  rw [Array.getElem?_toList]
  cases ops[j]? with
  | none => rfl
  | some o =>
    simp only [Option.bind_some]
    cases o.dst with
    | none => rfl
    | some t => rfl
/-- A branch on what a guard finds. -/
def qK (v : V) (want : Bool) (A B : Prop) : Prop :=
  match asG want v with
  | some b => (b = true → A) ∧ (b = false → B)
  | none => False
@[congr] theorem qK_congr {v v' : V} {want : Bool} {A B : Prop} (h : v = v') : qK v want A B = qK v' want A B := by rw [h]
theorem qK_t {b : Bool} {A B : Prop} : qK (.bool b) true A B = ((b = true → A) ∧ (b = false → B)) := by simp [qK, asG]
theorem qK_f {b : Bool} {A B : Prop} : qK (.bool b) false A B = ((b = true → B) ∧ (b = false → A)) := by cases b <;> simp [qK, asG]
theorem qK_tt {A B : Prop} : qK (.bool true) true A B = A := by simp [qK, asG]
theorem qK_tf {A B : Prop} : qK (.bool true) false A B = B := by simp [qK, asG]
theorem qK_ft {A B : Prop} : qK (.bool false) true A B = B := by simp [qK, asG]
theorem qK_ff {A B : Prop} : qK (.bool false) false A B = A := by simp [qK, asG]
theorem qK_u {want : Bool} {A B : Prop} : qK (.tup []) want A B = B := by simp [qK, asG]
def nthD : List Oper → Nat → Option Tmp
  | [], _ => none
  | o :: _, 0 => o.dst
  | _ :: l, j + 1 => nthD l j
theorem nthD_eq : ∀ (l : List Oper) (j : Nat), nthD l j = opDst l[j]?
  | [], j => by simp [nthD, opDst]
  | o :: l, 0 => by simp [nthD, opDst]
  | o :: l, j + 1 => by simp [nthD, nthD_eq l j]
theorem nthD_zero {d : Option Tmp} {op : Op} {ty : TypeId} {pos : String} {af : Array Edge} {g : Option (Nat × Bool)} {l : List Oper} : nthD ({ dst := d, op := op, type := ty, pos := pos, after := af, guard := g } :: l) 0 = d := nr (by simp only [nthD])
theorem nthD_succ {o : Oper} {l : List Oper} {j : Nat} : nthD (o :: l) (j + 1) = nthD l j := nr (by simp only [nthD])
def guardK (ops : List Oper) (s : St) (g : Option (Nat × Bool)) (A B : Prop) : Prop :=
  match g with
  | none => A
  | some (j, want) => qK (gT s (opDst ops[j]?)) want A B
theorem guardK_none {ops : List Oper} {s : St} {A B : Prop} : guardK ops s none A B = A := rfl
theorem guardK_some {ops : List Oper} {s : St} {j : Nat} {want : Bool} {A B : Prop} : guardK ops s (some (j, want)) A B = qK (gT s (nthD ops j)) want A B := by rw [nthD_eq]; rfl
section
variable {P : Program} [Gl P] {T : Tab}
theorem gStep_eq {ops : Array Oper} {o : Oper} {s : St} {A B : Prop} : gStep ops o s A B = guardK ops.toList s o.guard A B := by
  unfold gStep
  cases o.guard with
  | none => rfl
  | some jw =>
    obtain ⟨j, want⟩ := jw
    simp only [gval_eq, guardK, qK]
    cases asG want (gT s (opDst ops.toList[j]?)) with
    | none => rfl
    | some b => cases b <;> simp
theorem AStep_eq {ops : Array Oper} {o : Oper} {n : Nat} {hv : Nat → Option Blk} {K : St → Prop} {s : St} :
    AStep P T ops o n hv K s = guardK ops.toList s o.guard (orK (opR P T.q o.dst n hv s o.op) o.dst s K noX) (dstOk s o.dst ∧ K (s.put o.dst (.tup []))) := by
  unfold AStep
  rw [gStep_eq]

/-- A region in the text's order, the next name told apart from the state. -/
def WOp (P : Program) [Gl P] (T : Tab) (ops : Array Oper) (Q : St → Prop) (X : V → St → Prop) (l : List Oper) (n : Nat) (s : St) : Prop := WOps P T ops Q X l (s.setN n)
theorem St.put_setN (s : St) (n : Nat) (d : Option Tmp) (v : V) : (s.setN n).put d v = (s.put d v).setN n := by cases d <;> rfl
theorem St.setN_setN (s : St) (n m : Nat) : (s.setN n).setN m = s.setN m := nr rfl
theorem St.setN_self (s : St) : s.setN s.nx = s := nr rfl
theorem WOp_nil {ops : Array Oper} {Q : St → Prop} {X : V → St → Prop} {n : Nat} {s : St} : WOp P T ops Q X [] n s = Q (s.setN n) := rfl
theorem WOp_cons {ops : Array Oper} {Q : St → Prop} {X : V → St → Prop} {o : Oper} {l : List Oper} {n : Nat} {s : St} :
    WOp P T ops Q X (o :: l) n s = guardK ops.toList s o.guard (orE (opR P T o.dst n s.hp (s.setN n) o.op) o.dst n s (WOp P T ops Q X l) X) (dstOk s o.dst ∧ WOp P T ops Q X l n (s.put o.dst (.tup []))) := by
  show WOps P T ops Q X (o :: l) (s.setN n) = _
  simp only [WOps, gStep_eq]
  have e1 : orT (opR P T o.dst (s.setN n).nx (s.setN n).hp (s.setN n) o.op) o.dst (s.setN n) (WOps P T ops Q X l) X = orE (opR P T o.dst n s.hp (s.setN n) o.op) o.dst n s (WOp P T ops Q X l) X := by
    show orT (opR P T o.dst n s.hp (s.setN n) o.op) o.dst (s.setN n) (WOps P T ops Q X l) X = _
    cases opR P T o.dst n s.hp (s.setN n) o.op <;> simp only [orT, orE, WOp]
    · rw [St.put_setN]; rfl
    · rw [show (s.setN n).setB _ _ = (s.setB _ _).setN n from rfl, St.put_setN]; rfl
    · rw [show (s.setN n).setB _ _ = (s.setB _ _).setN n from rfl, St.put_setN]; rfl
    · rw [show ((s.setN n).rmB _).setB _ _ = ((s.rmB _).setB _ _).setN n from rfl, St.put_setN]; rfl
    · rw [show (s.setN n).putB _ _ = (s.putB _ _).setN n from rfl, St.put_setN]; rfl
    · have : ∀ (v : V) (s' : St), ((s.back s').put o.dst v).setN s'.nx = (s.back s').put o.dst v := fun v s' => by cases o.dst <;> rfl
      simp only [this]
      rfl
  rw [e1]
  show guardK ops.toList (s.setN n) o.guard _ (dstOk (s.setN n) o.dst ∧ WOps P T ops Q X l ((s.setN n).put o.dst (.tup []))) = _
  rw [St.put_setN]
  rfl
theorem WOp_mk {ops : List Oper} {Q : St → Prop} {X : V → St → Prop} {d : Option Tmp} {op : Op} {ty : TypeId} {pos : String} {af : Array Edge} {g : Option (Nat × Bool)} {l : List Oper} {n : Nat} {s : St} :
    WOp P T ops.toArray Q X ({ dst := d, op := op, type := ty, pos := pos, after := af, guard := g } :: l) n s = guardK ops s g (orE (opR P T d n s.hp (s.setN n) op) d n s (WOp P T ops.toArray Q X l) X) (dstOk s d ∧ WOp P T ops.toArray Q X l n (s.put d (.tup []))) := WOp_cons
/-- A region that draws its order. -/
def WLx (P : Program) [Gl P] (T : Tab) (ops : Array Oper) (B : Array Nat) (C : Nat) (Q : Nat → St → Prop) (l : List Oper) (k : Nat) (base : Nat) (s : St) : Prop := WLex P T ops B C (fun s' => Q s'.nx s') k l (s.setN base)
theorem WLx_nil {ops : Array Oper} {B : Array Nat} {C base k : Nat} {Q : Nat → St → Prop} {s : St} : WLx P T ops B C Q [] k base s = Q base (s.setN base) := rfl
def visM (m C k base : Nat) (hp : Nat → Option Blk) : Nat → Option Blk := fun b => if (if b < base then !hidO C k b else m.testBit ((b - base) / 8)) = true then hp b else none
theorem visM_eq0 (m k base : Nat) (hp : Nat → Option Blk) (b : Nat) : visM m 0 k base hp b = if b < base || decide (m / 2 ^ ((b - base) / 8) % 2 = 1) then hp b else none := by
  unfold visM hidO
  by_cases h : b < base
  · simp [h]
  · simp [h, Nat.testBit_eq_decide_div_mod_eq]
theorem visM_eq (m C k base : Nat) (hp : Nat → Option Blk) (b : Nat) : visM m C k base hp b = if b < base then (if C / 2 ^ (64 + k) % 2 = 1 ∧ C / 2 ^ (128 + b) % 2 = 1 then none else hp b) else (if m / 2 ^ ((b - base) / 8) % 2 = 1 then hp b else none) := by
  unfold visM hidO
  simp only [Nat.testBit_eq_decide_div_mod_eq]
  by_cases h : b < base
  · by_cases h1 : C / 2 ^ (64 + k) % 2 = 1 <;> by_cases h2 : C / 2 ^ (128 + b) % 2 = 1 <;> simp [h, h1, h2]
  · simp [h]
theorem orK_setN {r : OR} (hr : ∀ c f, r ≠ .ctr c f) {d : Option Tmp} {n : Nat} {s : St} {K : St → Prop} : orK r d (s.setN n) K noX = orK r d s (fun s' => K (s'.setN n)) noX := by
  cases r with
  | ctr c f => exact absurd rfl (hr _ _)
  | val c w => simp only [orK]; rw [St.put_setN]
  | new c m b w => simp only [orK]; rw [show (s.setN n).setB m b = (s.setB m b).setN n from rfl, St.put_setN]
  | store c b x => simp only [orK]; rw [show (s.setN n).setB b x = (s.setB b x).setN n from rfl, St.put_setN]
  | grow c b m x => simp only [orK]; rw [show ((s.setN n).rmB b).setB m x = ((s.rmB b).setB m x).setN n from rfl, St.put_setN]
  | call c m bs w => simp only [orK]; rw [show (s.setN n).putB m bs = (s.putB m bs).setN n from rfl, St.put_setN]
  | panic c w => simp only [orK, noX]
  | bad => rfl
/-- The condition on what operation k touches, laid out. -/
def hidE (B : List Nat) (C N base b : Nat) : Nat → Prop
  | 0 => True
  | j + 1 => hidE B C N base b j ∧ (N / 2 ^ j % 2 = 1 → (base ≤ b ∧ (b - base) / 8 ≠ j ∧ B.getD j 0 / 2 ^ ((b - base) / 8) % 2 = 0) ∨ (b < base ∧ C / 2 ^ (64 + j) % 2 = 1 ∧ C / 2 ^ (128 + b) % 2 = 1))
theorem hidE_iff {B : List Nat} {C N base b : Nat} : ∀ {m : Nat}, hidE B C N base b m ↔ ∀ j, j < m → N.testBit j = true → (base ≤ b ∧ (b - base) / 8 ≠ j ∧ (B.getD j 0).testBit ((b - base) / 8) = false) ∨ (b < base ∧ hidO C j b = true)
  | 0 => ⟨fun _ j hj _ => absurd hj (Nat.not_lt_zero _), fun _ => trivial⟩
  | m + 1 => by
    have e1 : (N.testBit m = true) = (N / 2 ^ m % 2 = 1) := by rw [Nat.testBit_eq_decide_div_mod_eq]; simp
    have e2 : ((B.getD m 0).testBit ((b - base) / 8) = false) = (B.getD m 0 / 2 ^ ((b - base) / 8) % 2 = 0) := by rw [Nat.testBit_eq_decide_div_mod_eq]; simp
    have e3 : (hidO C m b = true) = (C / 2 ^ (64 + m) % 2 = 1 ∧ C / 2 ^ (128 + b) % 2 = 1) := by unfold hidO; simp only [Nat.testBit_eq_decide_div_mod_eq]; simp
    simp only [hidE, hidE_iff (m := m), ← e1, ← e2, ← e3]
    constructor
    · rintro ⟨h1, h2⟩ j hj hb
      rcases Nat.lt_succ_iff_lt_or_eq.1 hj with hj | rfl
      · exact h1 j hj hb
      · exact h2 hb
    · intro h
      exact ⟨fun j hj hb => h j (by omega) hb, fun hb => h m (by omega) hb⟩
theorem hidP_eq {B : Array Nat} {C size base k b : Nat} : hidP B C size base k b = hidE B.toList C (B.toList.getD (size + 1 + k) 0) base b size := by
  have eg : ∀ i, B.toList.getD i 0 = B.getD i 0 := fun i => by simp
  apply propext
  rw [hidE_iff]
  simp only [eg]
  exact Iff.rfl
/-- What an operation gives, with the condition on what it touches. -/
def orH (B : List Nat) (C size k base : Nat) : OR → OR
  | .store c b x => .store (if B.getD (size + 1 + k) 0 = 0 then c else c ∧ hidE B C (B.getD (size + 1 + k) 0) base b size) b x
  | .grow c b n x => .grow (if B.getD (size + 1 + k) 0 = 0 then c else c ∧ hidE B C (B.getD (size + 1 + k) 0) base b size) b n x
  | r => r
theorem hidE_zero {B : List Nat} {C base b m : Nat} : hidE B C 0 base b m := by rw [hidE_iff]; intro j _ h; simp at h
theorem orH_c {B : Array Nat} {C size k base b : Nat} {c : Prop} : (if B.toList.getD (size + 1 + k) 0 = 0 then c else c ∧ hidE B.toList C (B.toList.getD (size + 1 + k) 0) base b size) = (c ∧ hidP B C size base k b) := by
  rw [hidP_eq]
  split
  · rename_i h
    rw [h]
    exact propext ⟨fun x => ⟨x, hidE_zero⟩, fun x => x.1⟩
  · rfl
theorem orH_eq {B : Array Nat} {C size k base : Nat} {r : OR} {d : Option Tmp} {s : St} {K : St → Prop} : (orK r d s K noX ∧ hcR (hidP B C size base k) r) = orK (orH B.toList C size k base r) d s K noX := by
  cases r with
  | store c b x => simp only [orH, orK, hcR, orH_c]; exact propext ⟨fun h => ⟨⟨h.1.1, h.2⟩, h.1.2⟩, fun h => ⟨⟨h.1.1, h.2⟩, h.1.2⟩⟩
  | grow c b n x => simp only [orH, orK, hcR, orH_c]; exact propext ⟨fun h => ⟨⟨h.1.1, h.2⟩, h.1.2⟩, fun h => ⟨⟨h.1.1, h.2⟩, h.1.2⟩⟩
  | _ => simp only [orH, hcR, and_true]
theorem AStep_HC_eq {ops : Array Oper} {B : Array Nat} {C size k base : Nat} {o : Oper} {n : Nat} {hv : Nat → Option Blk} {K : St → Prop} {s : St} :
    (AStep P T ops o n hv K s ∧ HC P T ops o n hv (hidP B C size base k) s) = guardK ops.toList s o.guard (orK (orH B.toList C size k base (opR P T.q o.dst n hv s o.op)) o.dst s K noX) (dstOk s o.dst ∧ K (s.put o.dst (.tup []))) := by
  rw [← gStep_eq]
  unfold AStep HC gStep
  cases o.guard with
  | none => exact orH_eq
  | some jw =>
    obtain ⟨j, want⟩ := jw
    simp only
    cases gval ops s j want with
    | none => simp
    | some b =>
      cases b with
      | true => simp only [if_true]; exact orH_eq
      | false => simp
section
variable {B : List Nat} {C size k base : Nat} {c : Prop}
theorem orH_val {v : V} : orH B C size k base (.val c v) = .val c v := nr rfl
theorem orH_new {n : Nat} {b : Blk} {v : V} : orH B C size k base (.new c n b v) = .new c n b v := nr rfl
theorem orH_call {n : Nat} {bs : List Blk} {v : V} : orH B C size k base (.call c n bs v) = .call c n bs v := nr rfl
theorem orH_panic {v : V} : orH B C size k base (.panic c v) = .panic c v := nr rfl
theorem orH_bad : orH B C size k base .bad = .bad := nr rfl
theorem orH_store {b : Nat} {x : Blk} : orH B C size k base (.store c b x) = .store (if B.getD (size + 1 + k) 0 = 0 then c else c ∧ hidE B C (B.getD (size + 1 + k) 0) base b size) b x := nr rfl
theorem orH_grow {b n : Nat} {x : Blk} : orH B C size k base (.grow c b n x) = .grow (if B.getD (size + 1 + k) 0 = 0 then c else c ∧ hidE B C (B.getD (size + 1 + k) 0) base b size) b n x := nr rfl
theorem orH_ite {p : Prop} [Decidable p] {r r' : OR} : orH B C size k base (if p then r else r') = if p then orH B C size k base r else orH B C size k base r' := by split <;> rfl
@[congr] theorem orH_congr {r r' : OR} (h : r = r') : orH B C size k base r = orH B C size k base r' := by rw [h]
end
theorem WLx_cons {ops : Array Oper} {B : Array Nat} {C base k : Nat} {Q : Nat → St → Prop} {o : Oper} {l : List Oper} {s : St} :
    WLx P T ops B C Q (o :: l) k base s = if C.testBit k = true
      then guardK ops.toList s o.guard (orE (opR P T o.dst (base + 8 * ops.toList.length) s.hp (s.setN (base + 8 * ops.toList.length)) o.op) o.dst (base + 8 * ops.toList.length) s (WLx P T ops B C Q l (k + 1)) noX) (dstOk s o.dst ∧ WLx P T ops B C Q l (k + 1) (base + 8 * ops.toList.length) (s.put o.dst (.tup [])))
      else guardK ops.toList s o.guard (orK (orH B.toList C ops.toList.length k base (opR P T.q o.dst (base + 8 * k) (visM (B.toList.getD k 0) C k base s.hp) s o.op)) o.dst s (WLx P T ops B C Q l (k + 1) base) noX) (dstOk s o.dst ∧ WLx P T ops B C Q l (k + 1) base (s.put o.dst (.tup []))) := by
  show (if C.testBit k = true then CStep0 P T ops o (WLex P T ops B C (fun s' => Q s'.nx s') (k + 1) l) ((s.setN base).setN ((s.setN base).nx + 8 * ops.size)) else AStep P T ops o ((s.setN base).nx + 8 * k) (vis B C (s.setN base).nx k (s.setN base).hp) (WLex P T ops B C (fun s' => Q s'.nx s') (k + 1) l) (s.setN base) ∧ HC P T ops o ((s.setN base).nx + 8 * k) (vis B C (s.setN base).nx k (s.setN base).hp) (hidP B C ops.size (s.setN base).nx k) (s.setN base)) = _
  by_cases hc : C.testBit k = true
  · rw [if_pos hc, if_pos hc, show ops.toList.length = ops.size by simp]
    generalize hn : base + 8 * ops.size = n
    show CStep0 P T ops o _ (s.setN (base + 8 * ops.size)) = _
    rw [hn]
    unfold CStep0
    rw [gStep_eq]
    have e1 : orT (opR P T o.dst (s.setN n).nx (s.setN n).hp (s.setN n) o.op) o.dst (s.setN n) (WLex P T ops B C (fun s' => Q s'.nx s') (k + 1) l) noX = orE (opR P T o.dst n s.hp (s.setN n) o.op) o.dst n s (WLx P T ops B C Q l (k + 1)) noX := by
      show orT (opR P T o.dst n s.hp (s.setN n) o.op) o.dst (s.setN n) (WLex P T ops B C (fun s' => Q s'.nx s') (k + 1) l) noX = _
      cases opR P T o.dst n s.hp (s.setN n) o.op <;> simp only [orT, orE, WLx, noX]
      · rw [St.put_setN]; rfl
      · rw [show (s.setN n).setB _ _ = (s.setB _ _).setN n from rfl, St.put_setN]; rfl
      · rw [show (s.setN n).setB _ _ = (s.setB _ _).setN n from rfl, St.put_setN]; rfl
      · rw [show ((s.setN n).rmB _).setB _ _ = ((s.rmB _).setB _ _).setN n from rfl, St.put_setN]; rfl
      · rw [show (s.setN n).putB _ _ = (s.putB _ _).setN n from rfl, St.put_setN]; rfl
      · have : ∀ (v : V) (s' : St), ((s.back s').put o.dst v).setN s'.nx = (s.back s').put o.dst v := fun v s' => by cases o.dst <;> rfl
        simp only [this]
        rfl
    rw [e1]
    show guardK ops.toList (s.setN n) o.guard _ (dstOk (s.setN n) o.dst ∧ WLex P T ops B C (fun s' => Q s'.nx s') (k + 1) l ((s.setN n).put o.dst (.tup []))) = _
    rw [St.put_setN]
    rfl
  · rw [if_neg hc, if_neg hc, AStep_HC_eq, show ops.toList.length = ops.size by simp]
    have hro : ∀ c f, orH B.toList C ops.size k base (opR P T.q o.dst (base + 8 * k) (visM (B.toList.getD k 0) C k base s.hp) (s.setN base) o.op) ≠ .ctr c f := by
      intro c f
      have h0 := opR_q (P := P) (T := T) (o := o) (nm := base + 8 * k) (hv := visM (B.toList.getD k 0) C k base s.hp) (s := s.setN base)
      revert h0
      generalize opR P T.q o.dst (base + 8 * k) (visM (B.toList.getD k 0) C k base s.hp) (s.setN base) o.op = r
      intro h0
      cases r <;> simp only [orH, ne_eq, reduceCtorEq, not_false_eq_true]
      exact h0 _ _
    show guardK ops.toList (s.setN base) o.guard (orK (orH B.toList C ops.size k base (opR P T.q o.dst (base + 8 * k) (vis B C base k s.hp) (s.setN base) o.op)) o.dst (s.setN base) _ noX) (dstOk (s.setN base) o.dst ∧ WLex P T ops B C (fun s' => Q s'.nx s') (k + 1) l ((s.setN base).put o.dst (.tup []))) = _
    have : vis B C base k s.hp = visM (B.toList.getD k 0) C k base s.hp := by
      funext b
      simp [vis, visM]
    rw [this, orK_setN hro, St.put_setN, opR_congr (s := s.setN base) (s' := s) o.op (fun _ _ => by rename_i x _; cases x <;> rfl) (by cases o.dst <;> rfl)]
    rfl
theorem WLx_mk {ops : List Oper} {B : Array Nat} {C base k : Nat} {Q : Nat → St → Prop} {d : Option Tmp} {op : Op} {ty : TypeId} {pos : String} {af : Array Edge} {g : Option (Nat × Bool)} {l : List Oper} {s : St} :
    WLx P T ops.toArray B C Q ({ dst := d, op := op, type := ty, pos := pos, after := af, guard := g } :: l) k base s = if C / 2 ^ k % 2 = 1
      then guardK ops s g (orE (opR P T d (base + 8 * ops.length) s.hp (s.setN (base + 8 * ops.length)) op) d (base + 8 * ops.length) s (WLx P T ops.toArray B C Q l (k + 1)) noX) (dstOk s d ∧ WLx P T ops.toArray B C Q l (k + 1) (base + 8 * ops.length) (s.put d (.tup [])))
      else guardK ops s g (orK (orH B.toList C ops.length k base (opR P T.q d (base + 8 * k) (visM (B.toList.getD k 0) C k base s.hp) s op)) d s (WLx P T ops.toArray B C Q l (k + 1) base) noX) (dstOk s d ∧ WLx P T ops.toArray B C Q l (k + 1) base (s.put d (.tup []))) := by
  rw [WLx_cons]
  have : (C.testBit k = true) = (C / 2 ^ k % 2 = 1) := by rw [Nat.testBit_eq_decide_div_mod_eq]; simp
  simp only [this]
/-- How a region that draws its order is met: with a table of who waits for whom, or in the text's order where that is the only one. -/
abbrev Md := Nat → Option (Array Nat)
def regOkM (P : Program) (ops : Array Oper) : Option (Array Nat) → Bool
  | some B => regOkB P ops B
  | none => strictOk ops ops.size 0 (Array.replicate ops.size false)
def codeOkM (P : Program) (M : Md) : Code → Bool
  | .region id ops d => !d || regOkM P ops (M id)
  | .seq a b => codeOkM P M a && codeOkM P M b
  | .cond _ a b => codeOkM P M a && codeOkM P M b
  | .block _ a => codeOkM P M a
  | _ => true
/-- What a region that draws its order asks. -/
def WD (P : Program) [Gl P] (T : Tab) (ops : Array Oper) (l : List Oper) (Q : AX → St → Prop) (s : St) : Option (Array Nat) → Prop
  | some B => WLx P T ops B (B.toList.getD l.length 0) (fun n s' => Q .normal (s'.setN (n + 8 * l.length))) l 0 s.nx s
  | none => WOp P T ops (Q .normal) (fun v => Q (.panic v)) l s.nx s
/-- What code asks, evaluated. -/
def WE (P : Program) [Gl P] (T : Tab) (M : Md) : Code → St → (AX → St → Prop) → Prop
  | .skip, s, Q => Q .normal s
  | .ret, s, Q => Q .ret s
  | .exit id, s, Q => Q (.exit id) s
  | .seq a b, s, Q => WE P T M a s (thenA (fun s' => WE P T M b s' Q) Q)
  | .cond c x y, s, Q => cK (ev P s c) (WE P T M x s Q) (WE P T M y s Q)
  | .block id c, s, Q => WE P T M c s (blockA id Q)
  | .region id ops draw, s, Q =>
    if draw then WD P T ops ops.toList Q s (M id)
    else WOp P T ops (Q .normal) (fun v => Q (.panic v)) ops.toList s.nx s
  | c, s, Q => W P c s Q
section
variable {M : Md} {s : St} {Q : AX → St → Prop}
theorem WE_skip : WE P T M .skip s Q = Q .normal s := rfl
theorem WE_ret : WE P T M .ret s Q = Q .ret s := rfl
theorem WE_exit {id : Nat} : WE P T M (.exit id) s Q = Q (.exit id) s := rfl
theorem WE_seq {a b : Code} : WE P T M (.seq a b) s Q = WE P T M a s (thenA (fun s' => WE P T M b s' Q) Q) := rfl
theorem WE_cond {c : Operand} {x y : Code} : WE P T M (.cond c x y) s Q = cK (ev P s c) (WE P T M x s Q) (WE P T M y s Q) := rfl
theorem WE_block {id : Nat} {c : Code} : WE P T M (.block id c) s Q = WE P T M c s (blockA id Q) := rfl
theorem WE_region {id : Nat} {l : List Oper} : WE P T M (.region id l.toArray false) s Q = WOp P T l.toArray (Q .normal) (fun v => Q (.panic v)) l s.nx s := rfl
theorem WE_draw {id : Nat} {l : List Oper} : WE P T M (.region id l.toArray true) s Q = WD P T l.toArray l Q s (M id) := rfl
theorem WD_some {ops : Array Oper} {l : List Oper} {B : Array Nat} : WD P T ops l Q s (some B) = WLx P T ops B (B.toList.getD l.length 0) (fun n s' => Q .normal (s'.setN (n + 8 * l.length))) l 0 s.nx s := rfl
theorem WD_none {ops : Array Oper} {l : List Oper} : WD P T ops l Q s none = WOp P T ops (Q .normal) (fun v => Q (.panic v)) l s.nx s := rfl
theorem thenA_normal {next : St → Prop} : thenA next Q .normal s = next s := rfl
theorem thenA_ret {next : St → Prop} : thenA next Q .ret s = Q .ret s := rfl
theorem thenA_exit {next : St → Prop} {i : Nat} : thenA next Q (.exit i) s = Q (.exit i) s := rfl
theorem thenA_panic {next : St → Prop} {v : V} : thenA next Q (.panic v) s = Q (.panic v) s := rfl
theorem blockA_normal {id : Nat} : blockA id Q .normal s = Q .normal s := rfl
theorem blockA_ret {id : Nat} : blockA id Q .ret s = Q .ret s := rfl
theorem blockA_exit {id i : Nat} : blockA id Q (.exit i) s = if i = id then Q .normal s else Q (.exit i) s := rfl
theorem blockA_panic {id : Nat} {v : V} : blockA id Q (.panic v) s = Q (.panic v) s := rfl
end
theorem W.of_WE (hT : T.ok P) (hm : P.follows .mixedOrders = true) (M : Md) : ∀ (c : Code) {s : St} {Q : AX → St → Prop}, codeOkM P M c = true → WE P T M c s Q → W P c s Q
  | .skip, s, Q, _, h => W.skip h
  | .ret, s, Q, _, h => W.ret h
  | .exit id, s, Q, _, h => W.exit h
  | .seq a b, s, Q, hk, h => by
    simp only [codeOkM, Bool.and_eq_true] at hk
    refine W.seq (W.mono (W.of_WE hT hm M a hk.1 h) ?_)
    intro e s' hq
    cases e with
    | normal => exact W.of_WE hT hm M b hk.2 hq
    | _ => exact hq
  | .cond c x y, s, Q, hk, h => by
    simp only [codeOkM, Bool.and_eq_true] at hk
    simp only [WE] at h
    cases hc : ev P s c <;> rw [hc] at h <;> simp only [cK, gK] at h
    · rename_i b
      exact W.cond b hc (fun hb => W.of_WE hT hm M x hk.1 (h.1 hb)) (fun hb => W.of_WE hT hm M y hk.2 (h.2 hb))
    · exact W.cond_any hc (W.of_WE hT hm M x hk.1 h.1) (W.of_WE hT hm M y hk.2 h.2)
  | .block id c, s, Q, hk, h => W.block (W.of_WE hT hm M c hk h)
  | .region id ops draw, s, Q, hk, h => by
    simp only [WE] at h
    cases draw with
    | true =>
      simp only [if_true] at h
      cases hM : M id with
      | some B =>
        rw [hM] at h
        refine W.region_draw hT hm (B := B) (by simpa [codeOkM, regOkM, hM] using hk) ?_
        have e : B.toList.getD ops.toList.length 0 = B.getD ops.size 0 := by simp
        simp only [WD, e] at h
        simpa [WLx, St.setN] using h
      | none =>
        rw [hM] at h
        exact W.region_strict hT hm (by simpa [codeOkM, regOkM, hM] using hk) h
    | false => exact W.region hT (by simp only [Bool.false_eq_true, if_false] at h; exact h)
  | .loop c, s, Q, _, h => h
  | .rangeFunc f p a b, s, Q, _, h => h
  | .scope c, s, Q, _, h => h
  | .label l, s, Q, _, h => h
  | .goto l, s, Q, _, h => h
  | .refuse w, s, Q, _, h => h
end
def M0 : Md := fun _ => some #[]
/-- Each region that draws its order has just one. -/
def MS : Md := fun _ => none
theorem M0_eq {i : Nat} : M0 i = some #[] := nr rfl
theorem MS_eq {i : Nat} : MS i = none := nr rfl

/-- No call is known. -/
def T0 : Tab := { R := fun _ _ => none, C := fun _ => none, Y := none }
theorem T0_ok (P : Program) [Gl P] : T0.ok P := ⟨fun _ _ _ h => (by simp [T0] at h), fun _ _ h => (by simp [T0] at h), fun _ h => (by simp [T0] at h)⟩
/-- One function more is known. -/
def Tab.add (T : Tab) (f : FuncId) (S : List V → Option Res) : Tab := { T with R := fun g args => if g = f then S args else T.R g args }
def Tab.addC (T : Tab) (f : FuncId) (C : Ct) : Tab := { T with C := fun g => if g = f then some C else T.C g }
def Tab.addY (T : Tab) (Y : Nat → Ct) : Tab := { T with Y := some Y }
theorem Tab.add_ok {P : Program} [Gl P] {T : Tab} (hT : T.ok P) {f : FuncId} {S : List V → Option Res} (h : ∀ args r, S args = some r → Runs P f args r) : (T.add f S).ok P := by
  refine ⟨fun g args r hr => ?_, hT.C, hT.Y⟩
  simp only [Tab.add] at hr
  split at hr
  · rename_i hg; subst hg; exact h args r hr
  · exact hT.R g args r hr
theorem Tab.addC_ok {P : Program} [Gl P] {T : Tab} (hT : T.ok P) {f : FuncId} {C : Ct} (h : ∀ vs s K X, C vs s K X → CallW P f s vs K X) : (T.addC f C).ok P := by
  refine ⟨hT.R, fun g C' hC => ?_, hT.Y⟩
  simp only [Tab.addC] at hC
  split at hC
  · rename_i hg; subst hg; simp only [Option.some.injEq] at hC; subst hC; exact h
  · exact hT.C g C' hC
theorem Tab.addY_ok {P : Program} [Gl P] {T : Tab} (hT : T.ok P) {Y : Nat → Ct} (h : ∀ b vs s K X, Y b vs s K X → CallY P b s vs K X) : (T.addY Y).ok P :=
  ⟨hT.R, hT.C, fun Y' hY => by simp only [Tab.addY, Option.some.injEq] at hY; subst hY; exact h⟩
theorem Tab.add_R {T : Tab} {f g : FuncId} {S : List V → Option Res} {args : List V} : (T.add f S).R g args = if g = f then S args else T.R g args := nr rfl
theorem Tab.add_C {T : Tab} {f g : FuncId} {S : List V → Option Res} : (T.add f S).C g = T.C g := nr rfl
theorem Tab.add_Y {T : Tab} {f : FuncId} {S : List V → Option Res} : (T.add f S).Y = T.Y := nr rfl
theorem Tab.addC_R {T : Tab} {f g : FuncId} {C : Ct} {args : List V} : (T.addC f C).R g args = T.R g args := nr rfl
theorem Tab.addC_C {T : Tab} {f g : FuncId} {C : Ct} : (T.addC f C).C g = if g = f then some C else T.C g := nr rfl
theorem Tab.addC_Y {T : Tab} {f : FuncId} {C : Ct} : (T.addC f C).Y = T.Y := nr rfl
theorem Tab.addY_R {T : Tab} {g : FuncId} {Y : Nat → Ct} {args : List V} : (T.addY Y).R g args = T.R g args := nr rfl
theorem Tab.addY_C {T : Tab} {g : FuncId} {Y : Nat → Ct} : (T.addY Y).C g = T.C g := nr rfl
theorem Tab.addY_Y {T : Tab} {Y : Nat → Ct} : (T.addY Y).Y = some Y := nr rfl
theorem Tab.q_R {T : Tab} {g : FuncId} {args : List V} : T.q.R g args = T.R g args := nr rfl
theorem Tab.q_C {T : Tab} {g : FuncId} : T.q.C g = none := nr rfl
theorem Tab.q_Y {T : Tab} : T.q.Y = none := nr rfl
theorem T0_R {g : FuncId} {args : List V} : T0.R g args = none := nr rfl
theorem T0_C {g : FuncId} : T0.C g = none := nr rfl
theorem T0_Y : T0.Y = none := nr rfl
@[congr] theorem orF_congr {T : Tab} {d : Prop} {n : Nat} {x y : List V} {s : St} {v v' : V} (h : v = v') : orF T d n x y s v = orF T d n x y s v' := by rw [h]
@[congr] theorem orFC_congr {T : Tab} {d : Prop} {n g : Nat} {x y : List V} {s : St} {v v' : Option Ct} (h : v = v') : orFC T d n g x y s v = orFC T d n g x y s v' := by rw [h]
@[congr] theorem orC_congr {d : Prop} {n : Nat} {x y : List V} {v v' : Option Res} (h : v = v') : orC d n x y v = orC d n x y v' := by rw [h]
theorem dstOk_some {s : St} {t : Nat} : dstOk s (some t) = (t < s.nt) := nr rfl
theorem dstOk_none {s : St} : dstOk s none = True := nr rfl
@[congr] theorem gT_congr {s : St} {o o' : Option Tmp} (h : o = o') : gT s o = gT s o' := by rw [h]
attribute [congr] pickR_cg
attribute [simp ↓] dstOk_some dstOk_none pickR_t pickR_f pickR_b
attribute [simp ↓ high] orE_val_t orE_new_t orE_store_t orE_grow_t orE_call_t orE_panic_t orE_ctr_t orK_val_t orK_new_t orK_store_t orK_grow_t orK_call_t gK_true gK_false qK_tt qK_tf qK_ft qK_ff
attribute [simp ↓ low] orE_val orE_new orE_store orE_grow orE_call orE_panic orE_ctr orK_val orK_new orK_store orK_grow orK_call gK_some qK_t qK_f
attribute [simp] orH_val orH_new orH_call orH_panic orH_bad orH_store orH_grow orH_ite
attribute [simp ↓] orE_bad orE_ite orK_bad orK_ite gK_none cK_bool cK_any guardK_none guardK_some qK_u WOp_nil WOp_mk WLx_nil WLx_mk WE_skip WE_ret WE_exit WE_seq WE_cond WE_block WE_region WE_draw WD_some WD_none thenA_normal thenA_ret thenA_exit thenA_panic blockA_normal blockA_ret blockA_exit blockA_panic
attribute [simp ↓] St.put_tm St.put_none St.put_hp St.put_nx St.put_nt St.put_top St.put_df St.put_kp St.setB_tm St.setB_hp St.setB_nx St.setB_nt St.setB_top St.setB_df St.setB_kp St.rmB_tm St.rmB_hp St.rmB_nx St.rmB_nt St.rmB_top St.rmB_df St.rmB_kp St.setN_tm St.setN_hp St.setN_nx St.setN_nt St.setN_top St.setN_df St.setN_kp St.putB_tm St.putB_nil St.putB_cons St.putB_nx St.putB_nt St.putB_top St.putB_df St.putB_kp St.back_tm St.back_hp St.back_nx St.back_nt St.back_top St.back_df St.back_kp St.enter_tm St.enter_hp St.enter_nx St.enter_nt St.enter_top St.enter_df St.enter_kp St.unmark_tm St.unmark_hp St.unmark_nx St.unmark_df initSt_tm initSt_hp initSt_nx initSt_nt initSt_top initSt_df initSt_kp
attribute [simp] visM_eq
attribute [simp 1100] visM_eq0
attribute [simp] orQ_val orQ_new orQ_bad orC_some orC_none orC_ite orF_fn orF_yld orFC_none orFC_some orY_some orL_store orL_bad orP_iface M0_eq MS_eq Tab.add_R Tab.add_C Tab.add_Y Tab.addC_R Tab.addC_C Tab.addC_Y Tab.addY_R Tab.addY_C Tab.addY_Y Tab.q_R Tab.q_C Tab.q_Y T0_R T0_C T0_Y
attribute [simp ↓] nthD_zero nthD_succ gT_some
attribute [simp] asB_bool orA orV_val orV_bad
attribute [simp ↓] ev_tmp ev_const ev_func ev_global opR_store opR_mapUpdate opR_panic opR_callf opR_append opR_max opR_min opR_len opR_move opR_assign opR_pick opR_alloc opR_box opR_load opR_nilCheck opR_binOp opR_unOp opR_convert opR_makeInterface opR_makeFunc opR_slice opR_fieldAddr opR_field opR_indexAddr opR_index opR_extract opR_build opR_buildSlice opR_makeSlice opR_lookup opR_makeMap opR_typeAssert
end Go.Proofs.YtbnjijffkjcmcaaDoor.AL
namespace Go.Proofs.YtbnjijffkjcmcaaDoor.AL
open Go
/-! ### States told by lists; weakening; loops -/
def lkV : List (Nat × V) → Nat → V
  | [], _ => .junk
  | (k, v) :: l, t => if t = k then v else lkV l t
/-- What a state tells beside temporaries and blocks. -/
structure Cx where
  nt : Nat
  top : Bool := true
  df : List Nat := []
/-- A state: what these temporaries hold, the blocks by their names 0, 1, ..; of the rest nothing is known. -/
def mkx (l : List (Nat × V)) (h : List Blk) (cx : Cx) : St := { tm := lkV l, hp := fun b => h[b]?, nx := h.length, nt := cx.nt, top := cx.top, df := cx.df, kp := false }
theorem mkx_tm (l : List (Nat × V)) (h : List Blk) (cx : Cx) (t : Nat) : (mkx l h cx).tm t = lkV l t := nr rfl
theorem mkx_hp (l : List (Nat × V)) (h : List Blk) (cx : Cx) (b : Nat) : (mkx l h cx).hp b = h[b]? := nr rfl
theorem mkx_nx (l : List (Nat × V)) (h : List Blk) (cx : Cx) : (mkx l h cx).nx = h.length := nr rfl
theorem mkx_nt (l : List (Nat × V)) (h : List Blk) (cx : Cx) : (mkx l h cx).nt = cx.nt := nr rfl
theorem mkx_top (l : List (Nat × V)) (h : List Blk) (cx : Cx) : (mkx l h cx).top = cx.top := nr rfl
theorem mkx_df (l : List (Nat × V)) (h : List Blk) (cx : Cx) : (mkx l h cx).df = cx.df := nr rfl
theorem mkx_kp (l : List (Nat × V)) (h : List Blk) (cx : Cx) : (mkx l h cx).kp = false := nr rfl
abbrev mk (l : List (Nat × V)) (h : List Blk) (nt : Nat) : St := mkx l h { nt := nt }
/-- The temporaries hold this, the names read through ns. -/
def tmOk (ns : List Nat) (s : St) : List (Nat × V) → Prop
  | [] => True
  | (t, v) :: l => (v.lt ns.length = true ∧ s.tm t = v.ren ns) ∧ tmOk ns s l
def dfOk (ns : List Nat) : List Nat → List Nat → Prop
  | [], [] => True
  | d :: ds, e :: es => (e < ns.length ∧ d = ns.getD e 0) ∧ dfOk ns ds es
  | _, _ => False
def wkOkx (ns : List Nat) (l : List (Nat × V)) (h : List Blk) (cx : Cx) (s : St) : Prop :=
  ns.Nodup ∧ s.nt = cx.nt ∧ s.top = cx.top ∧ dfOk ns s.df cx.df ∧ tmOk ns s l ∧ hpOk ns s ns h
theorem tmOk_get {ns : List Nat} {s : St} : ∀ {l : List (Nat × V)} (t : Nat), tmOk ns s l → lkV l t = .junk ∨ ((lkV l t).lt ns.length = true ∧ s.tm t = (lkV l t).ren ns)
  | [], t, _ => .inl rfl
  | (k, v) :: l, t, h => by
    simp only [tmOk] at h
    simp only [lkV]
    split
    · rename_i e; subst e; exact .inr h.1
    · exact tmOk_get t h.2
theorem DRel.renamed {E : Env} {ns : List Nat} : ∀ {ds es : List Nat} {dd : List Deferred}, dfOk ns ds es → DRel E ds dd → DRel (E.ren ns) es dd
  | [], [], dd, _, h => h
  | [], _ :: _, dd, h, _ => by simp [dfOk] at h
  | _ :: _, [], dd, h, _ => by simp [dfOk] at h
  | d :: ds, e :: es, dd, h, hd => by
    simp only [dfOk] at h
    obtain ⟨g, dd', rfl, ⟨h1, h2⟩, h3⟩ := hd
    refine ⟨g, dd', rfl, ⟨h.1.1, ?_⟩, DRel.renamed h.2 h3⟩
    show E.σ (ns.getD e 0) = _
    rw [← h.1.2]; exact h2
theorem Wk.mk {P : Program} [Gl P] {ns : List Nat} {l : List (Nat × V)} {h : List Blk} {cx : Cx} {s : St} (hk : wkOkx ns l h cx s) : Wk P s (mkx l h cx) := by
  obtain ⟨hnd, hnt, htop, hdf, ht, hh⟩ := hk
  obtain ⟨hlen, hg⟩ := hpOk_get hh
  intro X E a hs
  refine ⟨E.ren ns, rfl, ⟨⟨⟨hs.hp.renamed hnd hh, GOK.mono (E.ren_le0 ns) hs.gl, hs.AO, hs.Fz, hs.OA, hs.Oz⟩, fun h => hs.top (by rw [htop]; exact h), (fun h => by cases h), hs.defers.renamed hdf, hs.nt.trans hnt, fun t => ?_⟩, fun b hb => ?_⟩⟩
  · show R (E.ren ns) (lkV l t) _
    rcases tmOk_get t ht with h1 | ⟨h1, h2⟩
    · rw [h1]; simp only [R]
    · have := hs.tm t
      rw [h2] at this
      exact R.ren _ _ h1 this
  · show b < h.length
    rw [← hlen]
    exact hb
/-- A state that says less, the names kept. -/
structure St.le (s s' : St) : Prop where
  tm : ∀ t, s'.tm t = .junk ∨ s'.tm t = s.tm t
  hp : ∀ b x, s'.hp b = some x → s.hp b = some x
  nx : s.nx ≤ s'.nx
  nt : s'.nt = s.nt
  top : s'.top = s.top
  df : s'.df = s.df
  kp : s'.kp = true → s.kp = true
theorem Wk.le {P : Program} [Gl P] {s s' : St} (h : s.le s') : Wk P s s' := fun X E a hs =>
  ⟨E, rfl, ⟨⟨⟨hs.hp.sub h.hp, hs.gl, hs.AO, hs.Fz, hs.OA, hs.Oz⟩, fun ht => hs.top (by rw [← h.top]; exact ht), fun hk => hs.kp (h.kp hk), by rw [h.df]; exact hs.defers, by rw [h.nt]; exact hs.nt, fun t => by
    rcases h.tm t with e | e
    · rw [e]; simp only [R]
    · rw [e]; exact hs.tm t⟩, fun b hb => Nat.lt_of_lt_of_le (hs.nx b hb) h.nx⟩⟩

/-- A nil slice is a row of the call's own, with no element. -/
theorem Wk.adopt {P : Program} [Gl P] {s : St} (t : Nat) (sz : Nat) (ty : TypeId) (hsz : 0 < sz) (ht : s.tm t = .nils) : Wk P s (((s.setB s.nx (.sl sz ty [])).put (some t) (.own s.nx)).setN (s.nx + 1)) := by
  intro X E a hs
  obtain ⟨E', hE'⟩ : ∃ E' : Env, E' = { w := E.w, O := E.O, σ := upd E.σ s.nx (.slice none 0 0), D := fun b => E.D b ∨ b = s.nx } := ⟨_, rfl⟩
  have hne : ∀ b, E.D b → b ≠ s.nx := fun b hb => by have := hs.nx b hb; omega
  have hle : E.le E' := by
    subst hE'
    exact ⟨fun b h => .inl h, fun b h => upd_other _ _ (hne b h), Nat.le_refl _, fun _ _ h => ⟨rfl, h⟩⟩
  have hσn : E'.σ s.nx = .slice none 0 0 := by subst hE'; exact upd_same _ _ _
  have hw : E'.w = E.w := by subst hE'; rfl
  have hO : E'.O = E.O := by subst hE'; rfl
  have hD : ∀ b, E'.D b ↔ E.D b ∨ b = s.nx := fun b => by subst hE'; exact Iff.rfl
  have hH : HRel X.F E' (upd s.hp s.nx (some (.sl sz ty []))) := by
    refine ⟨fun b x hx => ?_, fun b b' x x' g hx hx' hg hg' => ?_⟩
    · by_cases e : b = s.nx
      · subst e
        simp only [upd_same, Option.some.injEq] at hx
        subst hx
        refine ⟨(hD _).2 (.inr rfl), ?_⟩
        rw [hσn]
        exact .inr ⟨rfl, hsz, none, rfl⟩
      · rw [upd_other _ _ e] at hx
        obtain ⟨h1, h2⟩ := hs.hp.blk b x hx
        refine ⟨(hD _).2 (.inl h1), ?_⟩
        rw [hle.σ b h1]
        exact h2.keep hle (fun g hg => by rw [hO]; exact hg) (fun g _ => by rw [hw])
    · by_cases e : b = s.nx
      · rw [e, hσn] at hg
        simp [blkOf] at hg
      · by_cases e' : b' = s.nx
        · rw [e', hσn] at hg'
          simp [blkOf] at hg'
        · rw [upd_other _ _ e] at hx
          rw [upd_other _ _ e'] at hx'
          rw [hle.σ b (hs.hp.blk b x hx).1] at hg
          rw [hle.σ b' (hs.hp.blk b' x' hx').1] at hg'
          exact hs.hp.sep b b' x x' g hx hx' hg hg'
  refine ⟨E', hw, ⟨⟨⟨hH, GOK.mono hle.le0 hs.gl, by rw [hO]; exact hs.AO, by rw [hw]; exact hs.Fz, by rw [hO]; exact hs.OA, by rw [hO, hw]; exact hs.Oz⟩, hs.top, fun hk => X.Km E E' hle (hs.kp hk), hs.defers.mono hle, hs.nt, fun t' => ?_⟩, fun b hb => ?_⟩⟩
  · show R E' (if t' = t then V.own s.nx else s.tm t') _
    split
    · rename_i e
      subst e
      have := hs.tm t'
      rw [ht] at this
      simp only [R] at this ⊢
      exact ⟨(hD _).2 (.inr rfl), this.trans hσn.symm, _, _, _, this⟩
    · exact R.mono hle _ _ (hs.tm t')
  · show b < s.nx + 1
    rcases (hD b).1 hb with h | h
    · have := hs.nx b h; omega
    · omega

/-! ### A block is given up: from now on it may only be read -/
mutual
def V.fz (b : Nat) (x : Blk) : V → V
  | .own b' => if b' = b then (match x with
    | .sl sz _ rows => .rd sz rows
    | _ => .own b') else .own b'
  | .ptr b' o => if b' = b then (match x with
    | .box _ cells => .rptr cells o
    | _ => .ptr b' o) else .ptr b' o
  | .eptr b' sz i o => if b' = b then (match x with
    | .sl sz' _ rows => if sz' = sz ∧ i < rows.length then .rptr (rows.getD i []) o else .junk
    | _ => .eptr b' sz i o) else .eptr b' sz i o
  | .mp b' => if b' = b then (match x with
    | .map ks vs => .mrd ks vs
    | _ => .mp b') else .mp b'
  | .agg cs => .agg (fzL b x cs)
  | .tup cs => .tup (fzL b x cs)
  | .fn f fi cs => .fn f (fzL b x fi) (fzL b x cs)
  | .iface t v => .iface t (v.fz b x)
  | .yld b' => .yld b'
  | .int k n => .int k n
  | .bool c => .bool c
  | .str s => .str s
  | .nilp => .nilp
  | .nils => .nils
  | .nilfn => .nilfn
  | .nilif => .nilif
  | .nilm => .nilm
  | .bany => .bany
  | .iany k => .iany k
  | .rd sz rows => .rd sz rows
  | .rptr r o => .rptr r o
  | .mrd ks vs => .mrd ks vs
  | .junk => .junk
def fzL (b : Nat) (x : Blk) : List V → List V
  | [] => []
  | c :: cs => c.fz b x :: fzL b x cs
end
def Blk.fz (b : Nat) (x : Blk) : Blk → Blk
  | .box ty cells => .box ty (fzL b x cells)
  | .sl sz ty rows => .sl sz ty rows
  | .slo sz ty rows => .slo sz ty (rows.map (fzL b x))
  | .obj o => .obj o
  | .loop st pend fn tm nt ps assign body d => .loop st pend fn (fun t => (tm t).fz b x) nt ps assign body d
  | .map ks vs => .map (fzL b x ks) (fzL b x vs)
def St.freeze (s : St) (b : Nat) (x : Blk) : St := { s with tm := fun t => (s.tm t).fz b x, hp := fun y => if y = b then none else (s.hp y).map (Blk.fz b x) }
theorem St.freeze_tm (s : St) (b : Nat) (x : Blk) (t : Nat) : (s.freeze b x).tm t = (s.tm t).fz b x := nr rfl
theorem St.freeze_hp (s : St) (b : Nat) (x : Blk) (y : Nat) : (s.freeze b x).hp y = if y = b then none else (s.hp y).map (Blk.fz b x) := nr rfl
theorem St.freeze_nx (s : St) (b : Nat) (x : Blk) : (s.freeze b x).nx = s.nx := nr rfl
theorem St.freeze_nt (s : St) (b : Nat) (x : Blk) : (s.freeze b x).nt = s.nt := nr rfl
theorem St.freeze_top (s : St) (b : Nat) (x : Blk) : (s.freeze b x).top = s.top := nr rfl
theorem St.freeze_df (s : St) (b : Nat) (x : Blk) : (s.freeze b x).df = s.df := nr rfl
theorem St.freeze_kp (s : St) (b : Nat) (x : Blk) : (s.freeze b x).kp = s.kp := nr rfl
/-- What may be given up. -/
def fzOk : Blk → Prop
  | .box _ cells => ∀ c ∈ cells, c.tree = true
  | .sl _ _ _ => True
  | .map ks vs => cleanL ks = true ∧ cleanL vs = true
  | _ => False
section
variable {F : Nat → Prop} {E E' : Env} {b : Nat} {x : Blk}
mutual
theorem R.fz (hle : E.le E') (hB : BRel F E (E.σ b) x) (hok : fzOk x) (hO : ∀ g, blkOf (E.σ b) = some g → ¬ E'.O g) (hw : E'.w = E.w) : ∀ (v : V) (u : Value), R E v u → R E' (v.fz b x) u
  | .own b', u, h => by
    simp only [V.fz]
    split
    · rename_i e; subst e
      cases x with
      | sl sz ty rows =>
        simp only [R] at h ⊢
        obtain ⟨_, rfl, _⟩ := h
        simp only [BRel] at hB
        rcases hB with ⟨vs, hown, hR, h1, hsz, hun, hF⟩ | ⟨h0, _, ad0, hσ0⟩
        · by_cases hn0 : rows = []
          · subst hn0
            rcases hown.2 with ⟨hv0, _⟩ | ⟨g, cap, cur, hσ, _, hh, hcap, _⟩
            · exact ⟨none, 0, hv0, by simp, by simp, .inl rfl⟩
            · exact ⟨_, cap, hσ, by simp, by simp, .inl rfl⟩
          have hlen : 0 < rows.length := List.length_pos_iff.2 hn0
          rcases hown.2 with ⟨hv0, hn0⟩ | ⟨g, cap, cur, hσ, _, hh, hcap, hml, hcs, htk⟩
          · omega
          · refine ⟨_, cap, hσ, hcap, by omega, .inr ⟨g, 0, rfl, hO g (by rw [hσ]; simp only [blkOf]; rw [if_neg (by omega)]), by rw [hw]; exact (Array.getElem?_eq_some_iff.1 hh).1, hun, ?_⟩⟩
            have hR0 : RL E' rows.flatten vs := RL.mono hle _ _ hR
            refine RRows.of_list (sz := sz) hR0 (fun j u hu => ?_) h1
            have := hown.cells (g := g) (by rw [hσ]; rfl) j u hu
            rw [Addr.add_lit] at this
            rw [hw]
            exact this
        · subst h0; exact ⟨ad0, 0, hσ0, by simp, by simp, .inl rfl⟩
      | _ => exact R.mono hle _ _ h
    · exact R.mono hle _ _ h
  | .ptr b' o, u, h => by
    simp only [V.fz]
    split
    · rename_i e; subst e
      cases x with
      | box ty cells =>
        simp only [R] at h ⊢
        obtain ⟨_, g, hσ, rfl⟩ := h
        simp only [BRel] at hB
        obtain ⟨g', arr, hσ', hh, hR, h1, hF, hOg⟩ := hB
        rw [hσ] at hσ'
        simp only [Value.pointer.injEq, Option.some.injEq, Addr.mk.injEq, and_true] at hσ'
        subst hσ'
        refine ⟨g, 0, by simp, hO g (by rw [hσ]; rfl), by rw [hw]; exact (Array.getElem?_eq_some_iff.1 hh).1, hok, RRow.of_list (RL.mono hle _ _ hR) (fun j u hu => ?_) h1⟩
        rw [hw]
        simp only [World.cell?, hh]
        simpa using hu
      | _ => exact R.mono hle _ _ h
    · exact R.mono hle _ _ h
  | .eptr b' sz i o, u, h => by
    simp only [V.fz]
    split
    · rename_i e; subst e
      cases x with
      | sl sz' ty rows =>
        simp only
        split
        · rename_i hc
          obtain ⟨rfl, hi⟩ := hc
          simp only [R] at h ⊢
          obtain ⟨_, g, n, cap, hσ, rfl⟩ := h
          simp only [BRel] at hB
          obtain ⟨vs, hown, hR, h1, hsz, hun, hF⟩ := hB.resolve_right (fun h => by rw [h.1] at hi; simp at hi)
          rcases hown.2 with ⟨hv0, hn0⟩ | ⟨g', cap', cur, hσ', _, hh, hcap, hml, hcs, htk⟩
          · omega
          rw [hσ] at hσ'
          simp only [Value.slice.injEq, Option.some.injEq, Addr.mk.injEq, and_true] at hσ'
          obtain ⟨rfl, rfl, rfl⟩ := hσ'
          have hrr : RRows E' rows g 0 := by
            refine RRows.of_list (sz := sz') (RL.mono hle _ _ hR) (fun j u hu => ?_) h1
            have := hown.cells (g := g) (by rw [hσ]; rfl) j u hu
            rw [Addr.add_lit] at this
            rw [hw]
            exact this
          have := RRows.row hrr (fun r hr => (hun r hr).1) i hi
          rw [Nat.zero_add] at this
          exact ⟨g, i * sz', rfl, hO g (by rw [hσ]; simp only [blkOf]; rw [if_neg (by omega)]), by rw [hw]; exact (Array.getElem?_eq_some_iff.1 hh).1, fun c hc => (hun _ (getD_mem hi)).2 c hc, this⟩
        · simp only [R]
      | _ => exact R.mono hle _ _ h
    · exact R.mono hle _ _ h
  | .mp b', u, h => by
    simp only [V.fz]
    split
    · rename_i e; subst e
      cases x with
      | map ks vs =>
        simp only [R] at h ⊢
        obtain ⟨_, rfl, _⟩ := h
        simp only [BRel] at hB
        obtain ⟨g, arr, clk, hσ, hh, h1, h2, hF, hOg⟩ := hB
        exact ⟨g, arr, clk, hσ, hO g (by rw [hσ]; rfl), by rw [hw]; exact (Array.getElem?_eq_some_iff.1 hh).1, hok.1, hok.2, by rw [hw]; exact hh, RL.mono hle _ _ h1, RL.mono hle _ _ h2⟩
      | _ => exact R.mono hle _ _ h
    · exact R.mono hle _ _ h
  | .agg cs, u, h => by
    simp only [R, V.fz] at h ⊢
    obtain ⟨vs, rfl, hr⟩ := h
    exact ⟨vs, rfl, RL.fz hle hB hok hO hw cs vs hr⟩
  | .tup cs, u, h => by
    simp only [R, V.fz] at h ⊢
    obtain ⟨vs, rfl, hr⟩ := h
    exact ⟨vs, rfl, RL.fz hle hB hok hO hw cs vs hr⟩
  | .fn f fi cs, u, h => by
    simp only [R, V.fz] at h ⊢
    obtain ⟨us, vs, rfl, h1, h2⟩ := h
    exact ⟨us, vs, rfl, RL.fz hle hB hok hO hw fi us h1, RL.fz hle hB hok hO hw cs vs h2⟩
  | .iface t v, u, h => by
    simp only [R, V.fz] at h ⊢
    obtain ⟨w, rfl, hr⟩ := h
    exact ⟨w, rfl, R.fz hle hB hok hO hw v w hr⟩
  | .yld b', u, h => R.mono hle _ _ h
  | .int k n, u, h => R.mono hle _ _ h
  | .bool c, u, h => R.mono hle _ _ h
  | .str s, u, h => R.mono hle _ _ h
  | .nilp, u, h => R.mono hle _ _ h
  | .nils, u, h => R.mono hle _ _ h
  | .nilfn, u, h => R.mono hle _ _ h
  | .nilif, u, h => R.mono hle _ _ h
  | .nilm, u, h => R.mono hle _ _ h
  | .bany, u, h => R.mono hle _ _ h
  | .iany _, u, h => R.mono hle _ _ h
  | .rd sz rows, u, h => R.mono hle _ _ h
  | .rptr r o, u, h => R.mono hle _ _ h
  | .mrd ks vs, u, h => R.mono hle _ _ h
  | .junk, u, h => R.mono hle _ _ h
theorem RL.fz (hle : E.le E') (hB : BRel F E (E.σ b) x) (hok : fzOk x) (hO : ∀ g, blkOf (E.σ b) = some g → ¬ E'.O g) (hw : E'.w = E.w) : ∀ (cs : List V) (vs : List Value), RL E cs vs → RL E' (fzL b x cs) vs
  | [], vs, h => by simpa only [RL, fzL] using h
  | c :: cs, vs, h => by
    simp only [RL, fzL] at h ⊢
    obtain ⟨v, vs', rfl, h1, h2⟩ := h
    exact ⟨v, vs', rfl, R.fz hle hB hok hO hw c v h1, RL.fz hle hB hok hO hw cs vs' h2⟩
end
end
theorem fzL_append (n : Nat) (y : Blk) : ∀ (a b : List V), fzL n y (a ++ b) = fzL n y a ++ fzL n y b
  | [], b => rfl
  | c :: a, b => by simp only [List.cons_append, fzL, fzL_append n y a b]
theorem fzL_flatten (n : Nat) (y : Blk) : ∀ (rows : List (List V)), fzL n y rows.flatten = (rows.map (fzL n y)).flatten
  | [] => rfl
  | r :: rows => by simp only [List.flatten_cons, List.map_cons, fzL_append, fzL_flatten n y rows]
theorem fzL_length (n : Nat) (y : Blk) : ∀ (a : List V), (fzL n y a).length = a.length
  | [] => rfl
  | c :: a => by simp only [fzL, List.length_cons, fzL_length n y a]
/-- A row of elements that name no block of the call's own any more. -/
theorem Wk.clean {P : Program} [Gl P] {s : St} (b : Nat) (sz : Nat) (ty : TypeId) (rows : List (List V)) (hb : s.hp b = some (.slo sz ty rows)) (hok : ∀ r ∈ rows, ∀ c ∈ r, c.tree = true) : Wk P s (s.setB b (.sl sz ty rows)) := by
  intro X E a hs
  obtain ⟨hD, hB⟩ := hs.hp.blk b _ hb
  refine ⟨E, rfl, ⟨⟨⟨⟨fun y z hz => ?_, fun y y' z z' g hz hz' hg hg' => ?_⟩, hs.gl, hs.AO, hs.Fz, hs.OA, hs.Oz⟩, hs.top, hs.kp, hs.defers, hs.nt, hs.tm⟩, hs.nx⟩⟩
  · by_cases e : y = b
    · subst e
      simp only [St.setB, upd_same, Option.some.injEq] at hz
      subst hz
      exact ⟨hD, BRel.ofSlo hok hB⟩
    · simp only [St.setB, upd_other _ _ e] at hz
      exact hs.hp.blk y z hz
  · have old : ∀ u v, (s.setB b (.sl sz ty rows)).hp u = some v → ∃ v', s.hp u = some v' := fun u v h => by
      by_cases e : u = b
      · subst e; exact ⟨_, hb⟩
      · simp only [St.setB, upd_other _ _ e] at h; exact ⟨v, h⟩
    obtain ⟨v1, k1⟩ := old _ _ hz
    obtain ⟨v2, k2⟩ := old _ _ hz'
    exact hs.hp.sep _ _ _ _ g k1 k2 hg hg'
theorem Wk.freeze {P : Program} [Gl P] {s : St} (b : Nat) (x : Blk) (hb : s.hp b = some x) (hok : fzOk x) : Wk P s (s.freeze b x) := by
  intro X E a hs
  obtain ⟨hD, hB⟩ := hs.hp.blk b x hb
  obtain ⟨E', hE'⟩ : ∃ E' : Env, E' = { E with O := fun g => E.O g ∧ blkOf (E.σ b) ≠ some g } := ⟨_, rfl⟩
  have hw : E'.w = E.w := by subst hE'; rfl
  have hO : ∀ g, E'.O g ↔ E.O g ∧ blkOf (E.σ b) ≠ some g := fun g => by subst hE'; exact Iff.rfl
  have hσ : E'.σ = E.σ := by subst hE'; rfl
  have hD' : E'.D = E.D := by subst hE'; rfl
  have hle : E.le E' := ⟨fun b h => by rw [hD']; exact h, fun b _ => by rw [hσ], by rw [hw]; exact Nat.le_refl _, fun g hg h => ⟨by rw [hw], fun h' => h ((hO g).1 h').1⟩⟩
  have hnO : ∀ g, blkOf (E.σ b) = some g → ¬ E'.O g := fun g hg h => ((hO g).1 h).2 hg
  have hfz := fun v u => R.fz (F := X.F) hle hB hok hnO hw v u
  have hfzL := fun v u => RL.fz (F := X.F) hle hB hok hnO hw v u
  have hblk : ∀ y z, (if y = b then none else (s.hp y).map (Blk.fz b x)) = some z → y ≠ b ∧ ∃ z0, s.hp y = some z0 ∧ z = Blk.fz b x z0 := fun y z h => by
    split at h
    · cases h
    · rename_i hne
      simp only [Option.map_eq_some_iff] at h
      obtain ⟨z0, h1, h2⟩ := h
      exact ⟨hne, z0, h1, h2.symm⟩
  have hH : HRel X.F E' (fun y => if y = b then none else (s.hp y).map (Blk.fz b x)) := by
    refine ⟨fun y z hz => ?_, fun y y' z z' g hz hz' hg hg' => ?_⟩
    · obtain ⟨hne, z0, hz0, rfl⟩ := hblk y z hz
      obtain ⟨h1, h2⟩ := hs.hp.blk y z0 hz0
      refine ⟨by rw [hD']; exact h1, ?_⟩
      rw [hσ]
      have hOk : ∀ g, blkOf (E.σ y) = some g → E.O g → E'.O g := fun g hg h => (hO g).2 ⟨h, fun h' => hne (hs.hp.sep y b z0 x g hz0 hb hg h')⟩
      cases z0 with
      | box ty cells =>
        simp only [BRel, Blk.fz] at h2 ⊢
        obtain ⟨g, arr, e, hh, hR, ho, hF, hOg⟩ := h2
        exact ⟨g, arr, e, by rw [hw]; exact hh, hfzL _ _ hR, ho, hF, hOk g (by rw [e]; rfl) hOg⟩
      | sl sz ty rows =>
        simp only [BRel, Blk.fz] at h2 ⊢
        rcases h2 with ⟨vs, hown, hR, ho, hsz, hun, hF⟩ | h2
        · exact .inl ⟨vs, by rw [hw]; exact hown, RL.mono hle _ _ hR, ho, hsz, hun, fun g hg => ⟨(hF g hg).1, hOk g hg (hF g hg).2⟩⟩
        · exact .inr h2
      | slo sz ty rows =>
        simp only [BRel, Blk.fz] at h2 ⊢
        rcases h2 with ⟨vs, hown, hR, ho, hsz, hun, hF⟩ | ⟨e1, e2⟩
        · refine .inl ⟨vs, by rw [hw, List.length_map]; exact hown, ?_, ho, hsz, fun r hr => ?_, fun g hg => ⟨(hF g hg).1, hOk g hg (hF g hg).2⟩⟩
          · rw [← fzL_flatten]; exact hfzL _ _ hR
          · obtain ⟨r', hr', rfl⟩ := List.mem_map.1 hr
            rw [fzL_length]
            exact ⟨(hun r' hr').1, fun _ _ => trivial⟩
        · exact .inr ⟨by rw [e1]; rfl, e2⟩
      | obj o =>
        simp only [BRel, Blk.fz] at h2 ⊢
        obtain ⟨g, e, hh, hc, hF, hOg⟩ := h2
        exact ⟨g, e, by rw [hw]; exact hh, hc, hF, hOk g (by rw [e]; rfl) hOg⟩
      | loop st pend fn tm nt ps assign body d =>
        simp only [BRel, Blk.fz] at h2 ⊢
        obtain ⟨g, r, e, hh, k1, k2, k3, k4, k5, k6, k7, k8, ⟨k9, k10⟩, hF, hOg⟩ := h2
        exact ⟨g, r, e, by rw [hw]; exact hh, k1, k2, k3, k4, fun t => hfz _ _ (k5 t), k6, k7, k8, ⟨by rw [hD']; exact k9, by rw [hσ]; exact k10⟩, hF, hOk g (by rw [e]; rfl) hOg⟩
      | map ks vs =>
        simp only [BRel, Blk.fz] at h2 ⊢
        obtain ⟨g, arr, clk, e, hh, k1, k2, hF, hOg⟩ := h2
        exact ⟨g, arr, clk, e, by rw [hw]; exact hh, hfzL _ _ k1, hfzL _ _ k2, hF, hOk g (by rw [e]; rfl) hOg⟩
    · obtain ⟨_, z0, hz0, _⟩ := hblk y z hz
      obtain ⟨_, z0', hz0', _⟩ := hblk y' z' hz'
      rw [hσ] at hg hg'
      exact hs.hp.sep y y' z0 z0' g hz0 hz0' hg hg'
  have hnF : ∀ g, blkOf (E.σ b) = some g → ¬ X.F g := fun g hg => (hB.own hg).1
  refine ⟨E', hw, ⟨⟨⟨hH, GOK.mono hle.le0 hs.gl, fun g hg => ⟨(hO g).2 ⟨(hs.AO g hg).1, fun h => hnF g h (hs.AO g hg).2⟩, (hs.AO g hg).2⟩, by rw [hw]; exact hs.Fz, fun g hg hF => hs.OA g ((hO g).1 hg).1 hF, fun g hg => by rw [hw]; exact hs.Oz g ((hO g).1 hg).1⟩, hs.top, fun hk => X.Km E E' hle (hs.kp hk), hs.defers.mono hle, hs.nt, fun t => hfz _ _ (hs.tm t)⟩, fun b' hb' => hs.nx b' (by rw [hD'] at hb'; exact hb')⟩⟩

theorem hpOk_nil' {ns ms : List Nat} {s : St} : hpOk ns s ms [] = (ms = []) := by
  cases ms <;> simp [hpOk]
theorem hpOk_cons' {ns ms : List Nat} {s : St} {b : Blk} {bs : List Blk} : hpOk ns s ms (b :: bs) = ∃ n ms', ms = n :: ms' ∧ (b.lt ns.length = true ∧ s.hp n = some (b.ren ns)) ∧ hpOk ns s ms' bs := by
  cases ms with
  | nil => simp [hpOk]
  | cons n ms =>
    simp only [hpOk, List.cons.injEq]
    apply propext
    constructor
    · intro h; exact ⟨n, ms, ⟨rfl, rfl⟩, h⟩
    · rintro ⟨_, _, ⟨rfl, rfl⟩, h⟩; exact h
/-- The state says at least this, for some names. -/
def wkE (l : List (Nat × V)) (h : List Blk) (cx : Cx) (s : St) : Prop := ∃ ns, wkOkx ns l h cx s
theorem wkE_nil {l : List (Nat × V)} {cx : Cx} {s : St} : wkE l [] cx s = (s.nt = cx.nt ∧ s.top = cx.top ∧ dfOk [] s.df cx.df ∧ tmOk [] s l) := by
  unfold wkE wkOkx
  apply propext
  constructor
  · rintro ⟨ns, _, h1, h2, h3, h4, h5⟩
    simp only [hpOk_nil'] at h5
    subst h5
    exact ⟨h1, h2, h3, h4⟩
  · rintro ⟨h1, h2, h3, h4⟩
    exact ⟨[], by simp, h1, h2, h3, h4, by simp [hpOk]⟩
theorem wkE_one {l : List (Nat × V)} {b : Blk} {cx : Cx} {s : St} : wkE l [b] cx s = ∃ n, (s.nt = cx.nt ∧ s.top = cx.top) ∧ tmOk [n] s l ∧ dfOk [n] s.df cx.df ∧ (b.lt 1 = true ∧ s.hp n = some (b.ren [n])) := by
  unfold wkE wkOkx
  apply propext
  constructor
  · rintro ⟨ns, _, h1, h2, h3, h4, h5⟩
    simp only [hpOk_cons', hpOk_nil'] at h5
    obtain ⟨n, ms, rfl, h5, rfl⟩ := h5
    exact ⟨n, ⟨h1, h2⟩, h4, h3, h5⟩
  · rintro ⟨n, ⟨h1, h2⟩, h4, h3, h5⟩
    exact ⟨[n], by simp, h1, h2, h3, h4, by simpa [hpOk] using h5⟩
theorem wkE_two {l : List (Nat × V)} {b c : Blk} {cx : Cx} {s : St} : wkE l [b, c] cx s = ∃ n m, (s.nt = cx.nt ∧ s.top = cx.top) ∧ tmOk [n, m] s l ∧ dfOk [n, m] s.df cx.df ∧ (b.lt 2 = true ∧ s.hp n = some (b.ren [n, m])) ∧ (c.lt 2 = true ∧ s.hp m = some (c.ren [n, m])) ∧ n ≠ m := by
  unfold wkE wkOkx
  apply propext
  constructor
  · rintro ⟨ns, hnd, h1, h2, h3, h4, h5⟩
    simp only [hpOk_cons', hpOk_nil'] at h5
    obtain ⟨n, ms, rfl, h5, m, ms', rfl, h6, rfl⟩ := h5
    exact ⟨n, m, ⟨h1, h2⟩, h4, h3, h5, h6, by simpa using hnd⟩
  · rintro ⟨n, m, ⟨h1, h2⟩, h4, h3, h5, h6, hne⟩
    exact ⟨[n, m], by simpa using hne, h1, h2, h3, h4, by simpa [hpOk] using ⟨h5, h6⟩⟩
theorem wkE_three {l : List (Nat × V)} {b c d : Blk} {cx : Cx} {s : St} : wkE l [b, c, d] cx s = ∃ n m k, (s.nt = cx.nt ∧ s.top = cx.top) ∧ tmOk [n, m, k] s l ∧ dfOk [n, m, k] s.df cx.df ∧ (b.lt 3 = true ∧ s.hp n = some (b.ren [n, m, k])) ∧ (c.lt 3 = true ∧ s.hp m = some (c.ren [n, m, k])) ∧
    (d.lt 3 = true ∧ s.hp k = some (d.ren [n, m, k])) ∧ n ≠ m ∧ n ≠ k ∧ m ≠ k := by
  unfold wkE wkOkx
  apply propext
  constructor
  · rintro ⟨ns, hnd, h1, h2, h3, h4, h5⟩
    simp only [hpOk_cons', hpOk_nil'] at h5
    obtain ⟨n, ms, rfl, h5, m, ms', rfl, h6, k, ms'', rfl, h7, rfl⟩ := h5
    exact ⟨n, m, k, ⟨h1, h2⟩, h4, h3, h5, h6, h7, by simpa [and_assoc] using hnd⟩
  · rintro ⟨n, m, k, ⟨h1, h2⟩, h4, h3, h5, h6, h7, hne⟩
    exact ⟨[n, m, k], by simpa [and_assoc] using hne, h1, h2, h3, h4, by simpa [hpOk] using ⟨h5, h6, h7⟩⟩
theorem wkE_four {l : List (Nat × V)} {b c d e : Blk} {cx : Cx} {s : St} : wkE l [b, c, d, e] cx s = ∃ n m k i, (s.nt = cx.nt ∧ s.top = cx.top) ∧ tmOk [n, m, k, i] s l ∧ dfOk [n, m, k, i] s.df cx.df ∧ (b.lt 4 = true ∧ s.hp n = some (b.ren [n, m, k, i])) ∧ (c.lt 4 = true ∧ s.hp m = some (c.ren [n, m, k, i])) ∧
    (d.lt 4 = true ∧ s.hp k = some (d.ren [n, m, k, i])) ∧ (e.lt 4 = true ∧ s.hp i = some (e.ren [n, m, k, i])) ∧ (n ≠ m ∧ n ≠ k ∧ n ≠ i) ∧ (m ≠ k ∧ m ≠ i) ∧ k ≠ i := by
  unfold wkE wkOkx
  apply propext
  constructor
  · rintro ⟨ns, hnd, h1, h2, h3, h4, h5⟩
    simp only [hpOk_cons', hpOk_nil'] at h5
    obtain ⟨n, ms, rfl, h5, m, ms', rfl, h6, k, ms'', rfl, h7, i, ms3, rfl, h8, rfl⟩ := h5
    exact ⟨n, m, k, i, ⟨h1, h2⟩, h4, h3, h5, h6, h7, h8, by simpa [and_assoc] using hnd⟩
  · rintro ⟨n, m, k, i, ⟨h1, h2⟩, h4, h3, h5, h6, h7, h8, hne⟩
    exact ⟨[n, m, k, i], by simpa [and_assoc] using hne, h1, h2, h3, h4, by simpa [hpOk] using ⟨h5, h6, h7, h8⟩⟩
attribute [simp] wkE_nil wkE_one wkE_two wkE_three wkE_four
section
variable {P : Program} [Gl P] {T : Tab}
theorem W.cutx {a b : Code} {s : St} {Q : AX → St → Prop} (C : Prop) (l : List (Nat × V)) (h : List Blk) (cx : Cx)
    (h1 : W P a s (thenA (fun s' => C ∧ wkE l h cx s') Q)) (h2 : C → W P b (mkx l h cx) Q) : W P (.seq a b) s Q :=
  W.seq (W.mono h1 fun e s' hq => by
    cases e with
    | normal => obtain ⟨hc, ns, hq⟩ := hq; exact W.wk (Wk.mk hq) (h2 hc)
    | _ => exact hq)
theorem W.seqE {a b : Code} {s : St} {Q : AX → St → Prop} (hT : T.ok P) (hm : P.follows .mixedOrders = true) (M : Md) (hk : codeOkM P M a = true) (h : WE P T M a s (thenA (fun s' => W P b s' Q) Q)) : W P (.seq a b) s Q :=
  W.seq (W.mono (W.of_WE hT hm M a hk h) fun e s' hq => by cases e <;> exact hq)
/-- A loop over states of a family. -/
theorem W.famx {ι : Type} {c : Code} {s : St} {Q : AX → St → Prop} (l : ι → List (Nat × V)) (h : ι → List Blk) (cx : Cx) (μ : ι → Nat) (i0 : ι) (h0 : wkE (l i0) (h i0) cx s)
    (round : ∀ i, W P c (mkx (l i) (h i) cx) (thenA (fun s' => ∃ j, μ j < μ i ∧ wkE (l j) (h j) cx s') Q)) : W P (.loop c) s Q := by
  obtain ⟨ns0, h0⟩ := h0
  refine W.loop (fun i => mkx (l i) (h i) cx) μ i0 (Wk.mk h0) fun i => ?_
  refine W.mono (round i) fun e s' hq => ?_
  cases e with
  | normal => obtain ⟨j, hlt, ns, hw⟩ := hq; exact ⟨j, Wk.mk hw, hlt⟩
  | _ => exact hq
/-- A loop that counts its rounds. -/
theorem W.forx {c : Code} {s : St} {Q : AX → St → Prop} (J : Nat → Prop) (l : Nat → List (Nat × V)) (h : Nat → List Blk) (cx : Cx) (N : Nat) (hJ : J 0) (h0 : wkE (l 0) (h 0) cx s)
    (round : ∀ k, k ≤ N → J k → W P c (mkx (l k) (h k) cx) (thenA (fun s' => (k < N ∧ J (k + 1)) ∧ wkE (l (k + 1)) (h (k + 1)) cx s') Q)) : W P (.loop c) s Q := by
  refine W.famx (ι := { k : Nat // k ≤ N ∧ J k }) (fun k => l k.1) (fun k => h k.1) cx (fun k => N - k.1) ⟨0, Nat.zero_le _, hJ⟩ h0 fun k => ?_
  refine W.mono (round k.1 k.2.1 k.2.2) fun e s' hq => ?_
  cases e with
  | normal => exact ⟨⟨k.1 + 1, hq.1.1, hq.1.2⟩, by have := hq.1.1; show N - (k.1 + 1) < N - k.1; omega, hq.2⟩
  | _ => exact hq
theorem W.cut {a b : Code} {s : St} {Q : AX → St → Prop} (C : Prop) (l : List (Nat × V)) (h : List Blk) (nt : Nat)
    (h1 : W P a s (thenA (fun s' => C ∧ wkE l h { nt := nt } s') Q)) (h2 : C → W P b (mk l h nt) Q) : W P (.seq a b) s Q := W.cutx C l h { nt := nt } h1 h2
theorem W.fam {ι : Type} {c : Code} {s : St} {Q : AX → St → Prop} (l : ι → List (Nat × V)) (h : ι → List Blk) (nt : Nat) (μ : ι → Nat) (i0 : ι) (h0 : wkE (l i0) (h i0) { nt := nt } s)
    (round : ∀ i, W P c (mk (l i) (h i) nt) (thenA (fun s' => ∃ j, μ j < μ i ∧ wkE (l j) (h j) { nt := nt } s') Q)) : W P (.loop c) s Q := W.famx l h { nt := nt } μ i0 h0 round
theorem W.for {c : Code} {s : St} {Q : AX → St → Prop} (J : Nat → Prop) (l : Nat → List (Nat × V)) (h : Nat → List Blk) (nt : Nat) (N : Nat) (hJ : J 0) (h0 : wkE (l 0) (h 0) { nt := nt } s)
    (round : ∀ k, k ≤ N → J k → W P c (mk (l k) (h k) nt) (thenA (fun s' => (k < N ∧ J (k + 1)) ∧ wkE (l (k + 1)) (h (k + 1)) { nt := nt } s') Q)) : W P (.loop c) s Q := W.forx J l h { nt := nt } N hJ h0 round
end
theorem RetOk_nil {P : Program} [Gl P] {fn : Func} {v : V} {s : St} : RetOk P fn ⟨v, []⟩ s = (v.lt 0 = true ∧ rvOk (v.ren []) (retV P fn s)) := by
  unfold RetOk
  apply propext
  constructor
  · rintro ⟨ns, _, h1, h2, h3⟩
    simp only [hpOk_nil'] at h2
    subst h2
    exact ⟨h1, h3⟩
  · rintro ⟨h1, h3⟩
    exact ⟨[], by simp, h1, by simp [hpOk], h3⟩
theorem RetOk_one {P : Program} [Gl P] {fn : Func} {v : V} {b : Blk} {s : St} : RetOk P fn ⟨v, [b]⟩ s = ∃ n, v.lt 1 = true ∧ (b.lt 1 = true ∧ s.hp n = some (b.ren [n])) ∧ rvOk (v.ren [n]) (retV P fn s) := by
  unfold RetOk
  apply propext
  constructor
  · rintro ⟨ns, _, h1, h2, h3⟩
    simp only [hpOk_cons', hpOk_nil'] at h2
    obtain ⟨n, ms, rfl, h2, rfl⟩ := h2
    exact ⟨n, h1, h2, h3⟩
  · rintro ⟨n, h1, h2, h3⟩
    exact ⟨[n], by simp, h1, by simpa [hpOk] using h2, h3⟩
theorem RetOk_two {P : Program} [Gl P] {fn : Func} {v : V} {b c : Blk} {s : St} : RetOk P fn ⟨v, [b, c]⟩ s = ∃ n m, n ≠ m ∧ v.lt 2 = true ∧ (b.lt 2 = true ∧ s.hp n = some (b.ren [n, m])) ∧ (c.lt 2 = true ∧ s.hp m = some (c.ren [n, m])) ∧ rvOk (v.ren [n, m]) (retV P fn s) := by
  unfold RetOk
  apply propext
  constructor
  · rintro ⟨ns, hnd, h1, h2, h3⟩
    simp only [hpOk_cons', hpOk_nil'] at h2
    obtain ⟨n, ms, rfl, h2, m, ms', rfl, h4, rfl⟩ := h2
    exact ⟨n, m, by simpa using hnd, h1, h2, h4, h3⟩
  · rintro ⟨n, m, hne, h1, h2, h4, h3⟩
    exact ⟨[n, m], by simpa using hne, h1, by simpa [hpOk] using ⟨h2, h4⟩, h3⟩
theorem RetOk_three {P : Program} [Gl P] {fn : Func} {v : V} {b c d : Blk} {s : St} : RetOk P fn ⟨v, [b, c, d]⟩ s = ∃ n m k, (n ≠ m ∧ n ≠ k ∧ m ≠ k) ∧ v.lt 3 = true ∧ (b.lt 3 = true ∧ s.hp n = some (b.ren [n, m, k])) ∧ (c.lt 3 = true ∧ s.hp m = some (c.ren [n, m, k])) ∧ (d.lt 3 = true ∧ s.hp k = some (d.ren [n, m, k])) ∧ rvOk (v.ren [n, m, k]) (retV P fn s) := by
  unfold RetOk
  apply propext
  constructor
  · rintro ⟨ns, hnd, h1, h2, h3⟩
    simp only [hpOk_cons', hpOk_nil'] at h2
    obtain ⟨n, ms, rfl, h2, m, ms', rfl, h4, k, ms'', rfl, h5, rfl⟩ := h2
    exact ⟨n, m, k, by simpa [and_assoc] using hnd, h1, h2, h4, h5, h3⟩
  · rintro ⟨n, m, k, hne, h1, h2, h4, h5, h3⟩
    exact ⟨[n, m, k], by simpa [and_assoc] using hne, h1, by simpa [hpOk] using ⟨h2, h4, h5⟩, h3⟩
attribute [simp] RetOk_nil RetOk_one RetOk_two RetOk_three
theorem lkV_nil {t : Nat} : lkV [] t = .junk := nr rfl
theorem lkV_cons {k : Nat} {v : V} {l : List (Nat × V)} {t : Nat} : lkV ((k, v) :: l) t = if t = k then v else lkV l t := nr rfl
attribute [simp ↓] mkx_tm mkx_hp mkx_nx mkx_nt mkx_top mkx_df mkx_kp lkV_nil lkV_cons St.freeze_tm St.freeze_hp St.freeze_nx St.freeze_nt St.freeze_top St.freeze_df St.freeze_kp
attribute [simp] tmOk dfOk hpOk Blk.ren Blk.lt
end Go.Proofs.YtbnjijffkjcmcaaDoor.AL
namespace Go.Proofs.YtbnjijffkjcmcaaDoor.AL
open Go
/-! ### Loops over functions -/
def roundTm (tm : Nat → V) : List Nat → List V → (Nat → V)
  | t :: ts, v :: vs => roundTm (upd tm t v) ts vs
  | _, _ => tm
/-- The state in which a round begins. -/
def St.round (s : St) (tm : Nat → V) (nt : Nat) (ps : Array Tmp) (vs : List V) : St := { tm := roundTm tm ps.toList vs, hp := s.hp, nx := s.nx, nt := nt, top := false }
theorem roundTm_sound {E : Env} : ∀ {ts : List Nat} {vs : List V} {us : List Value} {tm : Nat → V} {arr : Array Value}, (∀ t ∈ ts, t < arr.size) → RL E vs us → (∀ t, R E (tm t) (arr.getD t undef)) →
    ((ts.zip us).foldl (fun tmps (p : Nat × Value) => tmps.setIfInBounds p.1 p.2) arr).size = arr.size ∧ ∀ t, R E (roundTm tm ts vs t) (((ts.zip us).foldl (fun tmps (p : Nat × Value) => tmps.setIfInBounds p.1 p.2) arr).getD t undef)
  | [], vs, us, tm, arr, _, _, h => ⟨rfl, fun t => by simpa [roundTm] using h t⟩
  | x :: ts, [], us, tm, arr, _, hv, h => by
    simp only [RL] at hv
    subst hv
    exact ⟨rfl, fun t => by simpa [roundTm] using h t⟩
  | x :: ts, v :: vs, us, tm, arr, hlt, hv, h => by
    simp only [RL] at hv
    obtain ⟨u, us', rfl, hR, hv⟩ := hv
    have hx := hlt x (by simp)
    simp only [List.zip_cons_cons, List.foldl_cons, roundTm]
    obtain ⟨h1, h2⟩ := roundTm_sound (ts := ts) (vs := vs) (us := us') (tm := upd tm x v) (arr := arr.setIfInBounds x u) (fun t ht => by simpa using hlt t (by simp [ht])) hv (fun t => by
      simp only [upd, Array.getD_eq_getD_getElem?]
      by_cases e : t = x
      · subst e; simpa [hx] using hR
      · rw [if_neg e, Array.getElem?_setIfInBounds_ne (Ne.symm e), ← Array.getD_eq_getD_getElem?]
        exact h t)
    exact ⟨by rw [h1]; simp, h2⟩
section
variable {P : Program} [Gl P] {F A : Nat → Prop} {E : Env} {s : St}
theorem ERel.loop_get (hs : ERel P F A E s) {b : Nat} {st : LoopState} {pd : Option Code} {fn : FuncId} {tm : Nat → V} {nt : Nat} {ps : Array Tmp} {c1 c2 : Code} {d : Nat} (hb : s.hp b = some (.loop st pd fn tm nt ps c1 c2 d)) :
    ∃ g r, E.D b ∧ E.σ b = .pointer (some ⟨g, 0, none⟩) ∧ E.w.heap[g]? = some (.loop r) ∧ r.state = st ∧ r.pending = pd ∧ r.tmps.size = nt ∧ (∀ t, R E (tm t) (r.tmps.getD t undef)) ∧ r.params = ps ∧ r.assign = c1 ∧ r.body = c2 := by
  obtain ⟨hD, g, r, h1, h2, h3, h4, h5, h6, h7, h8, h9, h10, _⟩ := hs.hp.blk b _ hb
  exact ⟨g, r, hD, h1, h2, h3, h4, h6, h7, h8, h9, h10⟩
theorem ERel.loop_set (hs : ERel P F A E s) {b : Nat} {st : LoopState} {pd : Option Code} {fn : FuncId} {tm : Nat → V} {nt : Nat} {ps : Array Tmp} {c1 c2 : Code} {d : Nat} (hb : s.hp b = some (.loop st pd fn tm nt ps c1 c2 d))
    {g : Nat} {r : Loop} (hσ : E.σ b = .pointer (some ⟨g, 0, none⟩)) (hh : E.w.heap[g]? = some (.loop r)) (st' : LoopState) (pd' : Option Code) :
    ERel P F A { E with w := E.w.putObj g (.loop { r with state := st', pending := pd' }) } (s.setB b (.loop st' pd' fn tm nt ps c1 c2 d)) ∧ E.le { E with w := E.w.putObj g (.loop { r with state := st', pending := pd' }) } ∧
      Ev F E.w (E.w.putObj g (.loop { r with state := st', pending := pd' })) := by
  obtain ⟨hD, g', r', h1, h2, h3, h4, h5, h6, h7, h8, h9, h10, h11, hF, hO⟩ := hs.hp.blk b _ hb
  have e := hσ.symm.trans h1
  simp only [Value.pointer.injEq, Option.some.injEq, Addr.mk.injEq, and_true] at e
  subst e
  have e := hh.symm.trans h2
  simp only [Option.some.injEq, Obj.loop.injEq] at e
  subst e
  have hlt : g < E.w.heap.size := (Array.getElem?_eq_some_iff.1 hh).1
  have hle0 : E.le { E with w := E.w.putObj g (.loop { r with state := st', pending := pd' }) } :=
    ⟨fun _ h => h, fun _ _ => rfl, by simp, fun k hk hO' => ⟨World.putObj_heap_other (fun e => hO' (e ▸ hO)), hO'⟩⟩
  obtain ⟨hH, hle, hev⟩ := hs.hp.write hb (g := g) (by rw [hσ]; rfl) (w' := E.w.putObj g (.loop { r with state := st', pending := pd' })) (by simp) (fun k hk => World.putObj_heap_other hk) rfl rfl rfl (Nat.le_refl _)
    (x' := .loop st' pd' fn tm nt ps c1 c2 d) (by
      simp only [BRel]
      exact ⟨g, _, hσ, World.putObj_heap_same hlt, rfl, rfl, h5, h6, fun t => R.mono hle0 _ _ (h7 t), h8, h9, h10, h11, hF, hO⟩)
  exact ⟨⟨hH, GOK.mono hle.le0 hs.gl, hs.AO, fun k hk => Nat.lt_of_lt_of_le (hs.Fz k hk) hle.size, hs.OA, fun k hk => Nat.lt_of_lt_of_le (hs.Oz k hk) hle.size⟩, hle, hev⟩
end
/-- How a round may be left. -/
def roundQ (b : Nat) (L : LoopState → Option Code → Blk) (K : V → St → Prop) : AX → St → Prop
  | .normal, s => s.kp = true ∧ s.hp b = some (L .busy none) ∧ K (.bool true) (s.setB b (L .ready none))
  | .ret, s => s.kp = true ∧ s.hp b = some (L .busy none) ∧ K (.bool false) (s.setB b (L .done (some .ret)))
  | .exit i, s => s.kp = true ∧ s.hp b = some (L .busy none) ∧ K (.bool false) (s.setB b (L .done (some (.exit i))))
  | .goto l, s => s.kp = true ∧ s.hp b = some (L .busy none) ∧ K (.bool false) (s.setB b (L .done (some (.goto l))))
  | .panic _, _ => False
section
variable {P : Program} [Gl P] {s : St}
theorem FR_inRound (g : Nat) : (FR none).inRound g = FR (some g) := rfl
/-- A round, out of the loop's body. -/
theorem CallY.of_loop {b : Nat} {fn : FuncId} {tm : Nat → V} {nt : Nat} {ps : Array Tmp} {c1 c2 : Code} {d : Nat} (hb : s.hp b = some (.loop .ready none fn tm nt ps c1 c2 d))
    {vs : List V} {K Xp : V → St → Prop} (hlen : vs.length = ps.size) (hps : ps.toList.all (fun t => decide (t < nt)) = true)
    (h : W P c1 (s.round tm nt ps vs) (thenA (fun s1 => s1.kp = true ∧ s1.hp b = some (.loop .ready none fn tm nt ps c1 c2 d) ∧
      W P c2 (s1.setB b (.loop .busy none fn tm nt ps c1 c2 d)) (roundQ b (fun st pd => .loop st pd fn tm nt ps c1 c2 d) K)) (fun _ _ => False))) :
    CallY P b s vs K Xp := by
  intro F A E us g hE hnx hargs hD hσ
  obtain ⟨g', r, _, hσ', hh, h1, h2, h4, h5, h6, h7, h8⟩ := hE.loop_get hb
  have e := hσ.symm.trans hσ'
  simp only [Value.pointer.injEq, Option.some.injEq, Addr.mk.injEq, and_true] at e
  subst e
  show NextX P _ _ ((Instr.yield g us.toArray).run P E.w)
  rw [run_yield hh (by rw [h6]; simpa [hargs.length] using hlen)]
  show RoundIn (FR none) 0 P g r.fn _ r.assign r.body E.w (endX _ _)
  refine roundIn_of_wpIn trivial ?_
  rw [FR_inRound]
  have hps' : ∀ t ∈ ps.toList, t < r.tmps.size := fun t ht => by
    have := List.all_eq_true.1 hps t ht
    rw [h4]; simpa using this
  obtain ⟨t1, t2⟩ := roundTm_sound hps' hargs h5
  have efold : (r.params.zip us.toArray).foldl (fun tmps (p : Nat × Value) => tmps.setIfInBounds p.1 p.2) r.tmps = (ps.toList.zip us).foldl (fun tmps (p : Nat × Value) => tmps.setIfInBounds p.1 p.2) r.tmps := by
    rw [h6, ← Array.foldl_toList, Array.toList_zip]
  have hS : SRel P ⟨F, A, some g, fun E' => E.le E', fun _ _ h k => Env.le.trans k h⟩ E { tmps := (r.params.zip us.toArray).foldl (fun tmps (p : Nat × Value) => tmps.setIfInBounds p.1 p.2) r.tmps, defers := [] } (s.round tm nt ps vs) := by
    refine ⟨⟨hE.cong rfl, fun h => by simp [St.round] at h, fun _ => ⟨fun _ h => h, fun _ _ => rfl, Nat.le_refl _, fun _ _ h => ⟨rfl, h⟩⟩, rfl, ?_, fun t => ?_⟩, hnx⟩
    · rw [efold]; simpa [St.round, h4] using t1
    · rw [efold]; exact t2 t
  rw [h7, h8]
  refine wpIn_mono (h _ E _ hS) ?_
  rintro e a1 w1 ⟨E1, s1, x, rfl, hs1, hx, hq, hev⟩
  cases x with
  | normal =>
    obtain rfl : e = .normal := hx
    obtain ⟨hk1, hb1, hbody⟩ := hq
    have hle1 : E.le E1 := hs1.kp hk1
    have hσ1 : E1.σ b = .pointer (some ⟨g, 0, none⟩) := (hle1.σ b hD).trans hσ
    obtain ⟨g1, r1, _, hσ1', hh1, q1, q2, _⟩ := hs1.toERel.loop_get hb1
    have e := hσ1.symm.trans hσ1'
    simp only [Value.pointer.injEq, Option.some.injEq, Addr.mk.injEq, and_true] at e
    subst e
    obtain ⟨hE2, hle2, hev2⟩ := hs1.toERel.loop_set hb1 hσ1 hh1 .busy none
    refine ⟨_, by have := run_beginRound (P := P) hh1 q1; exact this, ?_⟩
    have er : ({ r1 with state := .busy } : Loop) = { r1 with state := .busy, pending := none } := by rw [← q2]
    rw [er]
    have hs2 : SRel P ⟨F, A, some g, fun E' => E.le E', fun _ _ h k => Env.le.trans k h⟩ { E1 with w := E1.w.putObj g (.loop { r1 with state := .busy, pending := none }) } a1 (s1.setB b (.loop .busy none fn tm nt ps c1 c2 d)) :=
      { hs1.toCRel.next (s' := s1.setB b (.loop .busy none fn tm nt ps c1 c2 d)) hle2 hE2 rfl rfl rfl rfl rfl with nx := hs1.nx }
    refine wpIn_mono (hbody _ _ a1 hs2) ?_
    rintro e a3 w3 ⟨E3, s3, y, rfl, hs3, hy, hq3, hev3⟩
    have fin : ∀ (j : Option Code), s3.kp = true → s3.hp b = some (.loop .busy none fn tm nt ps c1 c2 d) → K (.bool j.isNone) (s3.setB b (.loop (if j.isNone then .ready else .done) j fn tm nt ps c1 c2 d)) →
        ∃ v w', (Instr.endRound g j).run P E3.w = .ok v w' ∧ ∃ E' s' x, E'.w = w' ∧ E.le E' ∧ ERel P F A E' s' ∧ (∀ b, E'.D b → b < s'.nx) ∧ R E' x v ∧ K x s' ∧ Ev F E.w w' := by
      intro j hk3 hb3 hK
      have hle3 : E.le E3 := hs3.kp hk3
      have hσ3 : E3.σ b = .pointer (some ⟨g, 0, none⟩) := (hle3.σ b hD).trans hσ
      obtain ⟨g3, r3, _, hσ3', hh3, p1, p2, _⟩ := hs3.toERel.loop_get hb3
      have e := hσ3.symm.trans hσ3'
      simp only [Value.pointer.injEq, Option.some.injEq, Addr.mk.injEq, and_true] at e
      subst e
      obtain ⟨hE4, hle4, hev4⟩ := hs3.toERel.loop_set hb3 hσ3 hh3 (if j.isNone then .ready else .done) j
      exact ⟨_, _, run_endRound j hh3, _, _, .bool j.isNone, rfl, Env.le.trans hle3 hle4, hE4, hs3.nx, by simp only [R], hK, (hev.trans (hev2.trans hev3)).trans hev4⟩
    cases y with
    | normal =>
      obtain rfl : e = .normal := hy
      exact fin none hq3.1 hq3.2.1 hq3.2.2
    | ret =>
      obtain rfl : e = .ret := hy
      exact fin (some .ret) hq3.1 hq3.2.1 hq3.2.2
    | exit i =>
      obtain rfl : e = .exit i := hy
      exact fin (some (.exit i)) hq3.1 hq3.2.1 hq3.2.2
    | goto l =>
      obtain rfl : e = .goto l := hy
      exact fin (some (.goto l)) hq3.1 hq3.2.1 hq3.2.2
    | panic v => exact hq3.elim
  | _ => exact hq.elim
/-- What follows on the loop. -/
def afterR (P : Program) [Gl P] (Q : AX → St → Prop) (s : St) : Option Code → Prop
  | none => Q .normal s
  | some c => W P c s Q
theorem W.rangeFunc {o : Operand} {ps : Array Tmp} {c1 c2 : Code} {Q : AX → St → Prop} {gf : FuncId} {fi caps : List V} (hg : ev P s o = .fn gf fi caps) (htop : s.top = true)
    {fn0 : Func} {c0 : Code} (hf : P.funcs[gf]? = some fn0) (hn : fn0.name ≠ "runtime.NumGoroutine") (hbd : fn0.body = some c0)
    (h : ∀ fn, CallW P gf ((((s.setB s.nx (.obj (.deferred (some [])))).setN (s.nx + 1)).setB (s.nx + 1) (.loop .ready none fn s.tm s.nt ps c1 c2 s.nx)).setN (s.nx + 2)) (fi ++ [.yld (s.nx + 1)] ++ caps)
      (fun _ s' => ∃ st pd, s'.hp (s.nx + 1) = some (.loop st pd fn s.tm s.nt ps c1 c2 s.nx) ∧ st ≠ .busy ∧ afterR P Q { s with hp := upd s'.hp (s.nx + 1) none, nx := s'.nx, df := s.nx :: s.df } pd) (fun _ _ => False)) :
    W P (.rangeFunc o ps c1 c2) s Q := by
  intro X E a hs
  refine wpIn_rangeFunc ?_
  intro fn _
  have hρ : X.ρ = none := hs.top htop
  have hro : (FR X.ρ).round = none := hρ
  have hgv := hs.ev o
  rw [hg] at hgv
  simp only [R] at hgv
  obtain ⟨fvs, cvs, hgv, hfi, hcs⟩ := hgv
  -- the two blocks
  have hn0 : ¬ E.D s.nx := fun hD => Nat.lt_irrefl _ (hs.nx _ hD)
  have hG1 := E.alloc_grows (F := X.F) (.deferred (some [])) s.nx (.pointer (some ⟨E.w.heap.size, 0, none⟩)) hn0 hs.Fz
  have hH1 := hs.hp.add hG1 hn0 (.inr rfl) (upd_same _ _ _) (x := .obj (.deferred (some []))) (by
    simp only [BRel]
    exact ⟨_, rfl, heap_alloc_new E.w _, rfl, fun h => Nat.lt_irrefl _ (hs.Fz _ h), .inr rfl⟩) (fun g hg => by simp only [blkOf, Option.some.injEq] at hg; omega)
  have hE1 : ERel P X.F X.A (E.alloc (.deferred (some [])) s.nx (.pointer (some ⟨E.w.heap.size, 0, none⟩))) ((s.setB s.nx (.obj (.deferred (some [])))).setN (s.nx + 1)) := hs.toERel.grow hG1 hH1
  generalize hE1e : E.alloc (.deferred (some [])) s.nx (.pointer (some ⟨E.w.heap.size, 0, none⟩)) = E1 at *
  have hD1 : ∀ b, E1.D b → b < s.nx + 1 := fun b hb => by
    rw [← hE1e] at hb
    rcases hb with hb | hb
    · exact Nat.lt_succ_of_lt (hs.nx b hb)
    · omega
  have hn1 : ¬ E1.D (s.nx + 1) := fun hD => Nat.lt_irrefl _ (hD1 _ hD)
  have hdD : E1.D s.nx ∧ E1.σ s.nx = .pointer (some ⟨E.w.heap.size, 0, none⟩) := by rw [← hE1e]; exact ⟨.inr rfl, upd_same _ _ _⟩
  have hw1 : E1.w = E.w.alloc (.deferred (some [])) := by rw [← hE1e]; rfl
  obtain ⟨rec, hrec⟩ : ∃ rec : Loop, rec = { state := .ready, pending := none, fn := fn, tmps := a.tmps, params := ps, assign := c1, body := c2, defers := E.w.heap.size } := ⟨_, rfl⟩
  have htm : rec.tmps = a.tmps := by rw [hrec]
  have hG2 := E1.alloc_grows (F := X.F) (.loop rec) (s.nx + 1) (.pointer (some ⟨E1.w.heap.size, 0, none⟩)) hn1 hE1.Fz
  have hH2 := hE1.hp.add hG2 hn1 (.inr rfl) (upd_same _ _ _) (x := .loop .ready none fn s.tm s.nt ps c1 c2 s.nx) (by
    simp only [BRel]
    refine ⟨_, rec, rfl, heap_alloc_new E1.w _, by rw [hrec], by rw [hrec], by rw [hrec], by rw [hrec]; exact hs.nt, fun t => by rw [htm]; exact R.mono hG2.le _ _ (R.mono hG1.le _ _ (hs.tm t)), by rw [hrec], by rw [hrec], by rw [hrec], ⟨hG2.le.D _ hdD.1, ?_⟩, fun h => Nat.lt_irrefl _ (hE1.Fz _ h), .inr rfl⟩
    rw [hG2.le.σ _ hdD.1, hrec]; exact hdD.2) (fun g hg => by simp only [blkOf, Option.some.injEq] at hg; omega)
  have hE2 := hE1.grow (s' := ((((s.setB s.nx (.obj (.deferred (some [])))).setN (s.nx + 1)).setB (s.nx + 1) (.loop .ready none fn s.tm s.nt ps c1 c2 s.nx)).setN (s.nx + 2))) hG2 hH2
  generalize hE2e : E1.alloc (.loop rec) (s.nx + 1) (.pointer (some ⟨E1.w.heap.size, 0, none⟩)) = E2 at *
  have hD2 : ∀ b, E2.D b → b < s.nx + 2 := fun b hb => by
    rw [← hE2e] at hb
    rcases hb with hb | hb
    · exact Nat.lt_succ_of_lt (hD1 b hb)
    · omega
  have hw2 : E2.w = (E.w.alloc (.deferred (some []))).alloc (.loop rec) := by rw [← hE2e, ← hw1]; rfl
  have hsz1 : E1.w.heap.size = E.w.heap.size + 1 := by rw [hw1]; simp
  have hlD : E2.D (s.nx + 1) ∧ E2.σ (s.nx + 1) = .pointer (some ⟨E.w.heap.size + 1, 0, none⟩) := by rw [← hE2e, ← hsz1]; exact ⟨.inr rfl, upd_same _ _ _⟩
  have hle2 : E.le E2 := Env.le.trans hG1.le hG2.le
  have hev2 : Ev X.F E.w E2.w := hG1.ev.trans hG2.ev
  have hargs : RL E2 (fi ++ [.yld (s.nx + 1)] ++ caps) (fvs ++ [Value.func (.yield (E.w.heap.size + 1)) #[] #[]] ++ cvs) := by
    refine RL.append (RL.append (RL.mono hle2 _ _ hfi) ?_) (RL.mono hle2 _ _ hcs)
    simp only [RL]
    exact ⟨_, [], rfl, by simp only [R]; exact ⟨hlD.1, _, hlD.2, rfl⟩, rfl⟩
  have hcall := h fn X.F X.A E2 _ hE2 hD2 hargs
  unfold CallG CalledX at hcall
  rw [run_enter hf hn hbd] at hcall
  have hcall' : Calls P gf (fvs ++ [Value.func (.yield (E.w.heap.size + 1)) #[] #[]] ++ cvs).toArray E2.w (endX _ _) := hcall
  refine ⟨E.w.heap.size + 1, [{ target := .collected E.w.heap.size, args := #[] }], E2.w, { target := .fn (.func gf) cvs.toArray, args := fvs.toArray ++ #[Value.func (.yield (E.w.heap.size + 1)) #[] #[]] }, E2.w, gf,
    (fvs ++ [Value.func (.yield (E.w.heap.size + 1)) #[] #[]] ++ cvs).toArray, E2.w, ?_, ?_, fun _ _ => trivial, ?_, fun h => by simp [FR] at h, callsIn_FR (Calls.mono hcall' ?_)⟩
  · rw [hro, hw2, hrec]; exact run_enterLoop_outer _ _ _ _ _
  · simp only [resolve, hgv, Deferred.ofValue]
    simp [go_sem]
  · have : (fvs.toArray ++ #[Value.func (.yield (E.w.heap.size + 1)) #[] #[]] ++ cvs.toArray) = (fvs ++ [Value.func (.yield (E.w.heap.size + 1)) #[] #[]] ++ cvs).toArray := by simp
    simp only [invoke, this]
    exact run_enter hf hn hbd _ _
  · intro e w3 he
    cases e with
    | returned v =>
      obtain ⟨E3, s3, x, rfl, hle3, hE3, hD3, hR, ⟨st, pd, hb, hst, hQ⟩, hev3⟩ := he
      obtain ⟨g3, r3, _, hσ3, hh3, p1, p2, _⟩ := hE3.loop_get hb
      have e := ((hle3.σ _ hlD.1).trans hlD.2).symm.trans hσ3
      simp only [Value.pointer.injEq, Option.some.injEq, Addr.mk.injEq, and_true] at e
      subst e
      obtain ⟨hE4, hle4, hev4⟩ := hE3.loop_set hb hσ3 hh3 .exhausted pd
      have er : ({ r3 with state := .exhausted } : Loop) = { r3 with state := .exhausted, pending := pd } := by rw [← p2]
      have hend := run_endLoop (P := P) hh3 (by rw [p1]; exact hst)
      rw [er, p2] at hend
      have hsub : HRel X.F { E3 with w := E3.w.putObj (E.w.heap.size + 1) (.loop { r3 with state := .exhausted, pending := pd }) } (upd s3.hp (s.nx + 1) none) := by
        refine hE4.hp.sub fun b' x hx => ?_
        by_cases e : b' = s.nx + 1
        · subst e; simp [upd_same] at hx
        · rw [upd_other _ _ e] at hx; simp only [St.setB]; rw [upd_other _ _ e]; exact hx
      have hleA : E.le { E3 with w := E3.w.putObj (E.w.heap.size + 1) (.loop { r3 with state := .exhausted, pending := pd }) } := Env.le.trans hle2 (Env.le.trans hle3 hle4)
      have hdd : E3.D s.nx ∧ E3.σ s.nx = .pointer (some ⟨E.w.heap.size, 0, none⟩) := by
        have q := hG2.le.D _ hdD.1
        exact ⟨hle3.D _ q, by rw [hle3.σ _ q, hG2.le.σ _ hdD.1]; exact hdD.2⟩
      have hS : SRel P X { E3 with w := E3.w.putObj (E.w.heap.size + 1) (.loop { r3 with state := .exhausted, pending := pd }) } { a with defers := [{ target := .collected E.w.heap.size, args := #[] }] ++ a.defers }
          { s with hp := upd s3.hp (s.nx + 1) none, nx := s3.nx, df := s.nx :: s.df } :=
        ⟨⟨⟨hsub, hE4.gl, hE4.AO, hE4.Fz, hE4.OA, hE4.Oz⟩, hs.top, fun hk => X.Km _ _ hleA (hs.kp hk), ⟨E.w.heap.size, a.defers, rfl, hdd, hs.defers.mono hleA⟩, hs.nt, fun t => R.mono hleA _ _ (hs.tm t)⟩, hD3⟩
      have hevA : Ev X.F E.w (E3.w.putObj (E.w.heap.size + 1) (.loop { r3 with state := .exhausted, pending := pd })) := hev2.trans (hev3.trans hev4)
      refine ⟨pd, _, hend, ?_⟩
      cases pd with
      | none => exact ⟨_, _, .normal, rfl, hS, rfl, hQ, hevA⟩
      | some c => exact wpIn_mono (hQ X _ _ hS) fun e a' w' hp => postA_trans hevA hp
    | panicked ch => obtain ⟨_, _, _, _, _, _, _, _, _, _, hX, _⟩ := he; exact hX.elim
    | outgrown => exact he.elim
end
section
variable {P : Program} [Gl P] {s : St}
theorem CallG.mono {call : List Value → World → (Value → World → Prop) → (List PanicEntry → World → Prop) → Prop} (hcall : ∀ us w R R' Xc Xc', (∀ v w, R v w → R' v w) → (∀ v w, Xc v w → Xc' v w) → call us w R Xc → call us w R' Xc')
    {E : Env} {F A : Nat → Prop} {us : List Value} {K K' X X' : V → St → Prop} (hk : ∀ v s', K v s' → K' v s') (hx : ∀ v s', X v s' → X' v s') (h : CallG P call s E F A us K X) : CallG P call s E F A us K' X' := by
  refine hcall _ _ _ _ _ _ ?_ ?_ h
  · rintro v w ⟨E', s', x, h1, h2, h3, h4, h5, h6, h7⟩
    exact ⟨E', s', x, h1, h2, h3, h4, h5, hk _ _ h6, h7⟩
  · rintro v w ⟨E', s', x, u, h1, h2, h3, h4, h5, h6, h7, h8⟩
    exact ⟨E', s', x, u, h1, h2, h3, h4, h5, h6, hx _ _ h7, h8⟩
theorem CallY.mono {b : Nat} {vs : List V} {K K' X X' : V → St → Prop} (h : CallY P b s vs K X) (hk : ∀ v s', K v s' → K' v s') (hx : ∀ v s', X v s' → X' v s') : CallY P b s vs K' X' :=
  fun F A E us g h1 h2 h3 h4 h5 => CallG.mono (s := s) (us := us) (fun _ _ _ _ _ _ hr hxx x => NextX.mono hr hxx x) hk hx (h F A E us g h1 h2 h3 h4 h5)
theorem CallW.mono {g : FuncId} {vs : List V} {K K' X X' : V → St → Prop} (h : CallW P g s vs K X) (hk : ∀ v s', K v s' → K' v s') (hx : ∀ v s', X v s' → X' v s') : CallW P g s vs K' X' :=
  fun F A E us h1 h2 h3 => CallG.mono (s := s) (us := us) (fun _ _ _ _ _ _ hr hxx x => NextX.mono hr hxx x) hk hx (h F A E us h1 h2 h3)
/-- A call does the same in a state that tells the same of the heap. -/
theorem CallY.cong {b : Nat} {vs : List V} {K X : V → St → Prop} {s' : St} (h : CallY P b s vs K X) (e1 : s'.hp = s.hp) (e2 : s'.nx = s.nx) : CallY P b s' vs K X :=
  fun F A E us g h1 h2 h3 h4 h5 => h F A E us g (h1.cong e1.symm) (fun b hb => e2 ▸ h2 b hb) h3 h4 h5
/-- Yield, by its own contract. -/
def Yself (P : Program) [Gl P] : Nat → Ct := fun b vs s K X => CallY P b s vs K X
theorem Tab.addYself_ok {T : Tab} (hT : T.ok P) : (T.addY (Yself P)).ok P := Tab.addY_ok hT (fun _ _ _ _ _ h => h)
end
section
variable {P : Program} [Gl P] {s : St}
/-- The same, the loop's record under a name. -/
theorem CallY.of_loop' {b : Nat} {Lp : LoopState → Option Code → Blk} {fn : FuncId} {tm : Nat → V} {nt : Nat} {ps : Array Tmp} {c1 c2 : Code} {d : Nat} (hL : ∀ st pd, Lp st pd = .loop st pd fn tm nt ps c1 c2 d) (hb : s.hp b = some (Lp .ready none))
    {vs : List V} {K Xp : V → St → Prop} (hlen : vs.length = ps.size) (hps : ps.toList.all (fun t => decide (t < nt)) = true)
    (h : W P c1 (s.round tm nt ps vs) (thenA (fun s1 => s1.kp = true ∧ s1.hp b = some (Lp .ready none) ∧ W P c2 (s1.setB b (Lp .busy none)) (roundQ b Lp K)) (fun _ _ => False))) :
    CallY P b s vs K Xp := by
  obtain rfl : Lp = fun st pd => .loop st pd fn tm nt ps c1 c2 d := by funext st pd; exact hL st pd
  exact CallY.of_loop hb hlen hps h
theorem W.rangeFunc' {o : Operand} {ps : Array Tmp} {c1 c2 : Code} {Q : AX → St → Prop} {gf : FuncId} {fi caps : List V} {n : Nat} (hn0 : s.nx = n) (hg : ev P s o = .fn gf fi caps) (htop : s.top = true)
    {fn0 : Func} {c0 : Code} (hf : P.funcs[gf]? = some fn0) (hn : fn0.name ≠ "runtime.NumGoroutine") (hbd : fn0.body = some c0)
    (h : ∀ (fn : FuncId) (Lp : LoopState → Option Code → Blk), (∀ st pd, Lp st pd = .loop st pd fn s.tm s.nt ps c1 c2 n) → CallW P gf (((s.setB n (.obj (.deferred (some [])))).setB (n + 1) (Lp .ready none)).setN (n + 2)) (fi ++ [.yld (n + 1)] ++ caps)
      (fun _ s' => ∃ st pd, s'.hp (n + 1) = some (Lp st pd) ∧ st ≠ .busy ∧ afterR P Q { s with hp := upd s'.hp (n + 1) none, nx := s'.nx, df := n :: s.df } pd) (fun _ _ => False)) :
    W P (.rangeFunc o ps c1 c2) s Q := by
  subst hn0
  exact W.rangeFunc hg htop hf hn hbd fun fn => h fn (fun st pd => .loop st pd fn s.tm s.nt ps c1 c2 s.nx) (fun _ _ => rfl)
theorem St.round_tm (s : St) (tm : Nat → V) (nt : Nat) (ps : Array Tmp) (vs : List V) : (s.round tm nt ps vs).tm = roundTm tm ps.toList vs := nr rfl
theorem St.round_hp (s : St) (tm : Nat → V) (nt : Nat) (ps : Array Tmp) (vs : List V) : (s.round tm nt ps vs).hp = s.hp := nr rfl
theorem St.round_nx (s : St) (tm : Nat → V) (nt : Nat) (ps : Array Tmp) (vs : List V) : (s.round tm nt ps vs).nx = s.nx := nr rfl
theorem St.round_nt (s : St) (tm : Nat → V) (nt : Nat) (ps : Array Tmp) (vs : List V) : (s.round tm nt ps vs).nt = nt := nr rfl
theorem St.round_top (s : St) (tm : Nat → V) (nt : Nat) (ps : Array Tmp) (vs : List V) : (s.round tm nt ps vs).top = false := nr rfl
theorem St.round_df (s : St) (tm : Nat → V) (nt : Nat) (ps : Array Tmp) (vs : List V) : (s.round tm nt ps vs).df = [] := nr rfl
theorem St.round_kp (s : St) (tm : Nat → V) (nt : Nat) (ps : Array Tmp) (vs : List V) : (s.round tm nt ps vs).kp = true := nr rfl
theorem roundTm_cons (tm : Nat → V) (x : Nat) (ts : List Nat) (v : V) (vs : List V) : roundTm tm (x :: ts) (v :: vs) = roundTm (upd tm x v) ts vs := nr rfl
theorem roundTm_nil (tm : Nat → V) (vs : List V) : roundTm tm [] vs = tm := by cases vs <;> rfl
theorem upd_app {α : Type} (f : Nat → α) (n : Nat) (x : α) (m : Nat) : upd f n x m = if m = n then x else f m := nr rfl
attribute [simp ↓] St.round_tm St.round_hp St.round_nx St.round_nt St.round_top St.round_df St.round_kp
attribute [simp] roundTm_cons roundTm_nil upd_app
theorem roundQ_normal {b : Nat} {L : LoopState → Option Code → Blk} {K : V → St → Prop} {s : St} : roundQ b L K .normal s = (s.kp = true ∧ s.hp b = some (L .busy none) ∧ K (.bool true) (s.setB b (L .ready none))) := nr rfl
theorem roundQ_ret {b : Nat} {L : LoopState → Option Code → Blk} {K : V → St → Prop} {s : St} : roundQ b L K .ret s = (s.kp = true ∧ s.hp b = some (L .busy none) ∧ K (.bool false) (s.setB b (L .done (some .ret)))) := nr rfl
theorem roundQ_exit {b i : Nat} {L : LoopState → Option Code → Blk} {K : V → St → Prop} {s : St} : roundQ b L K (.exit i) s = (s.kp = true ∧ s.hp b = some (L .busy none) ∧ K (.bool false) (s.setB b (L .done (some (.exit i))))) := nr rfl
attribute [simp ↓] roundQ_normal roundQ_ret roundQ_exit
end
/-- A name below the next one is none of the new ones. -/
theorem fresh_ne {x n : Nat} (h : x < n) : (x = n) = False ∧ (n = x) = False ∧ (x < n) = True ∧ (x = n + 8) = False ∧ (n + 8 = x) = False ∧ (x < n + 8) = True ∧ (x = n + 8 + 8) = False ∧ (n + 8 + 8 = x) = False ∧ (x < n + 8 + 8) = True ∧ (x = n + 8 + 8 + 8) = False ∧ (n + 8 + 8 + 8 = x) = False ∧ (x < n + 8 + 8 + 8) = True ∧ (x = n + 8 + 8 + 8 + 8) = False ∧ (n + 8 + 8 + 8 + 8 = x) = False ∧ (x < n + 8 + 8 + 8 + 8) = True ∧ (x = n + 8 + 8 + 8 + 8 + 8) = False ∧ (n + 8 + 8 + 8 + 8 + 8 = x) = False ∧ (x < n + 8 + 8 + 8 + 8 + 8) = True ∧ (x = n + 8 + 8 + 8 + 8 + 8 + 8) = False ∧ (n + 8 + 8 + 8 + 8 + 8 + 8 = x) = False ∧ (x < n + 8 + 8 + 8 + 8 + 8 + 8) = True ∧ (x = n + 8 + 8 + 8 + 8 + 8 + 8 + 8) = False ∧ (n + 8 + 8 + 8 + 8 + 8 + 8 + 8 = x) = False ∧ (x < n + 8 + 8 + 8 + 8 + 8 + 8 + 8) = True ∧ (x = n + 8 + 8 + 8 + 8 + 8 + 8 + 8 + 8) = False ∧ (n + 8 + 8 + 8 + 8 + 8 + 8 + 8 + 8 = x) = False ∧ (x < n + 8 + 8 + 8 + 8 + 8 + 8 + 8 + 8) = True := by
  refine ⟨?_, ?_, ?_, ?_, ?_, ?_, ?_, ?_, ?_, ?_, ?_, ?_, ?_, ?_, ?_, ?_, ?_, ?_, ?_, ?_, ?_, ?_, ?_, ?_, ?_, ?_, ?_⟩ <;> (apply propext; constructor <;> intro <;> first | trivial | omega)
theorem Runs.weak {P : Program} [Gl P] {f : FuncId} {args args' : List V} {r : Res} (h : ∀ E vs, RL E args vs → RL E args' vs) (hr : Runs P f args' r) : Runs P f args r := fun E vs h1 h2 h3 h4 => hr E vs h1 h2 h3 (h E vs h4)
theorem R_nils_rd {E : Env} {v : Value} (sz : Nat) (h : R E .nils v) : R E (.rd sz []) v := by
  simp only [R] at h ⊢
  subst h
  exact ⟨none, 0, rfl, Nat.le_refl _, Nat.zero_le _, by simp⟩
section
variable {P : Program} [Gl P] {T : Tab} {X : Fr} {ops : Array Oper}
/-- A part of a region, and what follows on it. -/
theorem WOps_then (hT : T.ok P) {w0 : World} {Q : AX → St → Prop} {K : St → Prop} {l2 : List Nat}
    (fin : ∀ {E : Env} {a : Act} {s : St}, SRel P X E a s → Ev X.F w0 E.w → K s → wpOpsIn (FR X.ρ) 0 P ops (postA P X w0 Q) l2 a E.w) :
    ∀ (l : List Nat) (lo : List Oper), (l.map fun i => ops[i]?) = lo.map some → ∀ {E : Env} {a : Act} {s : St}, SRel P X E a s → Ev X.F w0 E.w → WOps P T ops K (fun v => Q (.panic v)) lo s →
    wpOpsIn (FR X.ρ) 0 P ops (postA P X w0 Q) (l ++ l2) a E.w := by
  intro l
  induction l with
  | nil =>
    intro lo hl E a s hs hev h
    cases lo with
    | nil => exact fin hs hev h
    | cons o lo => simp at hl
  | cons i l ih =>
    intro lo hl E a s hs hev h
    cases lo with
    | nil => simp at hl
    | cons o lo =>
      simp only [List.map_cons, List.cons.injEq] at hl
      simp only [WOps] at h
      simp only [List.cons_append, wpOpsIn, hl.1]
      have key : ∀ (K' : Act → World → Prop), (∀ a' w', GoesT P X E.w (fun s' => WOps P T ops K (fun v => Q (.panic v)) lo s') a' w' → K' a' w') →
          ∀ (Qx : Exit → Act → World → Prop), (∀ e a' w', postA P X E.w (onPanic fun v => Q (.panic v)) e a' w' → Qx e a' w') →
          (orT (opR P T o.dst s.nx s.hp s o.op) o.dst s (WOps P T ops K (fun v => Q (.panic v)) lo) (fun v => Q (.panic v))) → o.wpIn (FR X.ρ) 0 P a E.w K' Qx := by
        intro K' hK Qx hQx h1
        have := opT_sound hT hs h1
        refine ⟨fun _ _ => trivial, ?_⟩
        have h2 := this.2
        revert h2
        generalize (o.semAt (FR X.ρ).round a.eval).run P E.w = r
        intro h2
        cases r with
        | halt x w' => cases x <;> simp only [Oper.uponIn] at h2 ⊢ <;> exact hQx _ _ _ h2
        | ok n w' =>
          cases n <;> simp only [Oper.uponIn] at h2 ⊢ <;> first
            | exact hK _ _ h2
            | exact ⟨h2.1, CallsIn.mono h2.2 (fun e w'' he => by cases e <;> first | exact hK _ _ he | exact hQx _ _ _ he | (obtain ⟨a0, w0', hq⟩ := he; exact ⟨a0, w0', hQx _ _ _ hq⟩))⟩
            | exact ⟨h2.1, RowsIn.mono h2.2 (fun _ _ he => hK _ _ he)⟩
            | exact ⟨h2.1, RoundIn.mono h2.2 (fun e w'' he => by cases e <;> first | exact hK _ _ he | exact hQx _ _ _ he | (obtain ⟨a0, w0', hq⟩ := he; exact ⟨a0, w0', hQx _ _ _ hq⟩))⟩
      have go : ∀ a' w', GoesT P X E.w (fun s' => WOps P T ops K (fun v => Q (.panic v)) lo s') a' w' → wpOpsIn (FR X.ρ) 0 P ops (postA P X w0 Q) (l ++ l2) a' w' := by
        rintro a' w' ⟨E', s', rfl, hS, hk, hev'⟩
        exact ih lo hl.2 hS (hev.trans hev') hk
      have goX : ∀ e a' w', postA P X E.w (onPanic fun v => Q (.panic v)) e a' w' → postA P X w0 Q e a' w' := by
        rintro e a' w' ⟨E', s', x, rfl, h1, h2, h3, h4⟩
        refine ⟨E', s', x, rfl, h1, h2, ?_, hev.trans h4⟩
        cases x <;> first | exact h3 | exact h3.elim
      refine gStep_sound hs.toCRel (fun h1 => key _ go _ goX h1) (fun h1 => ⟨fun _ _ => trivial, go _ _ ⟨E, _, rfl, ?_, h1.2, Ev.refl _ _⟩⟩) h
      have hC := hs.toCRel.put (dst := o.dst) h1.1 (u := undef) (v := .tup []) (fun _ => by simp only [R]; exact ⟨[], rfl, by simp only [RL]⟩)
      exact { hC with nx := fun b hb => by have := hs.nx b hb; cases o.dst <;> exact this }
/-- A region in the text's order, cut in two; between them the state may be told in other words. -/
theorem W.region_split (hT : T.ok P) (k : Nat) {id : Nat} {s : St} {Q : AX → St → Prop}
    (h : WOp P T ops (fun s' => ∃ s'', Wk P s' s'' ∧ WOp P T ops (Q .normal) (fun v => Q (.panic v)) (ops.toList.drop k) s''.nx s'') (fun v => Q (.panic v)) (ops.toList.take k) s.nx s) : W P (.region id ops false) s Q := by
  intro X E a hs
  have hsp : List.range ops.size = (List.range ops.size).take k ++ (List.range ops.size).drop k := (List.take_append_drop k _).symm
  have hr := ops_range ops
  have h1 : (((List.range ops.size).take k).map fun i => ops[i]?) = (ops.toList.take k).map some := by rw [List.map_take, hr, ← List.map_take]
  have h2 : (((List.range ops.size).drop k).map fun i => ops[i]?) = (ops.toList.drop k).map some := by rw [List.map_drop, hr, ← List.map_drop]
  refine wpIn_region ?_
  rw [hsp]
  refine WOps_then (T := T) hT (Q := Q) (K := fun s' => ∃ s'', Wk P s' s'' ∧ WOp P T ops (Q .normal) (fun v => Q (.panic v)) (ops.toList.drop k) s''.nx s'') ?_ _ _ h1 hs (Ev.refl _ _) h
  rintro E1 a1 s1 hs1 hev ⟨s2, hw, h3⟩
  obtain ⟨E2, e2, hs2⟩ := hw X E1 a1 hs1
  rw [← e2] at hev ⊢
  exact WOps_sound hT _ _ h2 hs2 hev h3
end
end Go.Proofs.YtbnjijffkjcmcaaDoor.AL

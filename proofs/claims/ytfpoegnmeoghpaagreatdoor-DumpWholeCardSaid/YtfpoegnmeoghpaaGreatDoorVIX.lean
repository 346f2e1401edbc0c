/- Walking the evaluator by rewriting: values, memory, calls. -/
import Derived.Test.YtfpoegnmeoghpaaGreatDoorVIW
set_option linter.unusedVariables false
set_option linter.unusedSimpArgs false
namespace Go.VI
@[go_sem] theorem ev_t (env : Env) (i : Nat) : (Opd.t i).ev env = env.get i := rfl
@[go_sem] theorem ev_c (env : Env) (v : AV) : (Opd.c v).ev env = v := rfl
@[go_sem] theorem evs_nil (env : Env) : evs env [] = [] := rfl
@[go_sem] theorem evs_cons (env : Env) (x : Opd) (xs : List Opd) : evs env (x :: xs) = x.ev env :: evs env xs := rfl
@[go_sem] theorem get_nil (t : Nat) : Env.get [] t = .undef := rfl
@[go_sem] theorem get_cons (s : Nat) (v : AV) (r : Env) (t : Nat) : Env.get ((s,v) :: r) t = if s = t then v else Env.get r t := rfl
@[go_sem] theorem set_cons (e : Env) (t : Nat) (v : AV) : Env.set e t v = (t,v) :: e := rfl
@[go_sem] theorem put_some (env : Env) (t : Nat) (v : AV) : env.put (some t) v = env.set t v := rfl
@[go_sem] theorem put_none (env : Env) (v : AV) : env.put none v = env := rfl
@[go_sem] theorem keep_nil (env : Env) : env.keep [] = [] := rfl
@[go_sem] theorem keep_cons (env : Env) (s : Nat) (ss : List Nat) : env.keep (s :: ss) = (s,env.get s) :: env.keep ss := rfl
@[go_sem] theorem argEnv_nil (i : Nat) : argEnv i [] = [] := rfl
@[go_sem] theorem argEnv_cons (i : Nat) (v : AV) (vs : List AV) : argEnv i (v :: vs) = (i,v) :: argEnv (i + 1) vs := rfl
@[go_sem] theorem bin_add (k : IntKind) (a b : Int) : binv .add (.int k a) (.int k b) = some (.int k (k.wrap (a + b))) := by simp [binv]
@[go_sem] theorem bin_sub (k : IntKind) (a b : Int) : binv .sub (.int k a) (.int k b) = some (.int k (k.wrap (a - b))) := by simp [binv]
@[go_sem] theorem bin_mul (k : IntKind) (a b : Int) : binv .mul (.int k a) (.int k b) = some (.int k (k.wrap (a * b))) := by simp [binv]
theorem bin_quo {k : IntKind} {a b : Int} (hb : b ≠ 0) : binv .quo (.int k a) (.int k b) = some (.int k (k.wrap (a.tdiv b))) := by simp [binv,hb]
theorem bin_rem {k : IntKind} {a b : Int} (hb : b ≠ 0) : binv .rem (.int k a) (.int k b) = some (.int k (a.tmod b)) := by simp [binv,hb]
theorem bin_shr {k k' : IntKind} {a b : Int} (hb : 0 ≤ b) : binv .shr (.int k a) (.int k' b) = some (.int k (a / (2 ^ (min b.toNat k.bits)))) := by
 have : (0 : Int) ≤ 2 ^ (min b.toNat k.bits) := Int.pow_nonneg (by omega)
 simp [binv,hb,Int.fdiv_eq_ediv_of_nonneg _ this]
@[go_sem] theorem bin_shr1 (k k' : IntKind) (a : Int) : binv .shr (.int k a) (.int k' 1) = some (.int k (a / 2)) := by
 rw [bin_shr (by omega)]
 cases k <;> rfl
@[go_sem] theorem bin_eql (k : IntKind) (a b : Int) : binv .eql (.int k a) (.int k b) = some (.bool (decide (a = b))) := by simp only [binv,if_true]; rfl
@[go_sem] theorem bin_neq (k : IntKind) (a b : Int) : binv .neq (.int k a) (.int k b) = some (.bool (decide (a ≠ b))) := by simp only [binv,if_true]; congr 2; rw [Bool.eq_iff_iff]; simp
@[go_sem] theorem bin_lss (k : IntKind) (a b : Int) : binv .lss (.int k a) (.int k b) = some (.bool (decide (a < b))) := by simp [binv]
@[go_sem] theorem bin_leq (k : IntKind) (a b : Int) : binv .leq (.int k a) (.int k b) = some (.bool (decide (a ≤ b))) := by simp [binv]
@[go_sem] theorem bin_gtr (k : IntKind) (a b : Int) : binv .gtr (.int k a) (.int k b) = some (.bool (decide (b < a))) := by simp [binv]
@[go_sem] theorem bin_geq (k : IntKind) (a b : Int) : binv .geq (.int k a) (.int k b) = some (.bool (decide (b ≤ a))) := by simp [binv]
@[go_sem] theorem un_neg (k : IntKind) (a : Int) : unv .neg (.int k a) = some (.int k (k.wrap (-a))) := by simp [unv]
@[go_sem] theorem un_not (b : Bool) : unv .not (.bool b) = some (.bool (!b)) := rfl
@[go_sem] theorem conv_int (k k' : IntKind) (a : Int) : convv k (.int k' a) = some (.int k (k.wrap a)) := rfl
@[go_sem] theorem eqv_f (a b : Bool) : eqvv false [] (.bool a) (.bool b) = some (.bool (a == b)) := rfl
@[go_sem] theorem eqv_t (a b : Bool) : eqvv true [] (.bool a) (.bool b) = some (.bool (!(a == b))) := rfl
theorem eqv_agg {n : Bool} {ks : List Kd} {as bs : List AV} (h : ks ≠ []) (ha : okKs ks as = true) (hb : okKs ks bs = true) : eqvv n ks (.agg as) (.agg bs) = some (.bool (if n then !(eqL as bs) else eqL as bs)) := by simp [eqvv,h,ha,hb]
@[go_sem] theorem mm_one (m : Bool) (x : AV) : mmv m [x] = some x := rfl
@[go_sem] theorem mm_max (k : IntKind) (a b : Int) : mmv true [.int k a,.int k b] = some (.int k (max a b)) := by
 simp only [mmv,mm2]; congr 2; simp only [if_true]; split <;> omega
theorem wrap_id {a : Int} (h1 : -9223372036854775808 ≤ a) (h2 : a ≤ 9223372036854775807) : IntKind.i64.wrap a = a := by
 simp [IntKind.wrap,IntKind.bits,IntKind.signed]; omega
theorem wrapu_id {a : Int} (h1 : 0 ≤ a) (h2 : a ≤ 18446744073709551615) : IntKind.u64.wrap a = a := by
 simp [IntKind.wrap,IntKind.bits,IntKind.signed]; omega
theorem wrapb_id {a : Int} (h1 : 0 ≤ a) (h2 : a ≤ 255) : IntKind.u8.wrap a = a := by
 simp [IntKind.wrap,IntKind.bits,IntKind.signed]; omega
theorem tdiv_id {a b : Int} (h : 0 ≤ a) : a.tdiv b = a / b := Int.tdiv_eq_ediv_of_nonneg h
theorem tmod_id {a b : Int} (h : 0 ≤ a) : a.tmod b = a % b := Int.tmod_eq_emod_of_nonneg h
theorem idx_ok {k : IntKind} {i : Int} {n : Nat} (h0 : 0 ≤ i) (h1 : i < n) : idx (.int k i) n = some i.toNat := by simp [idx,h0,h1]
@[go_sem] theorem val_int (k : IntKind) (n : Int) : (AV.int k n).val = true := rfl
@[go_sem] theorem val_bool (b : Bool) : (AV.bool b).val = true := rfl
@[go_sem] theorem val_str (l : List UInt8) : (AV.str l).val = true := rfl
@[go_sem] theorem val_agg (cs : List AV) : (AV.agg cs).val = true := rfl
@[go_sem] theorem val_lst (z : Nat) (cs : List AV) : (AV.lst z cs).val = true := rfl
@[go_sem] theorem val_nilSl : AV.nilSl.val = true := rfl
@[go_sem] theorem val_fn (f : Nat) (cs : List AV) : (AV.fn f cs).val = true := rfl
@[go_sem] theorem val_ref (i v z o l f : Nat) : (AV.ref i v z o l f).val = true := rfl
@[go_sem] theorem cells_int (k : IntKind) (n : Int) : (AV.int k n).cells = [.int k n] := rfl
@[go_sem] theorem cells_bool (b : Bool) : (AV.bool b).cells = [.bool b] := rfl
@[go_sem] theorem cells_str (l : List UInt8) : (AV.str l).cells = [.str l] := rfl
@[go_sem] theorem cells_agg (cs : List AV) : (AV.agg cs).cells = cs := rfl
@[go_sem] theorem cells_lst (z : Nat) (cs : List AV) : (AV.lst z cs).cells = [.lst z cs] := rfl
@[go_sem] theorem cells_nilSl : AV.nilSl.cells = [.nilSl] := rfl
@[go_sem] theorem cells_fn (f : Nat) (cs : List AV) : (AV.fn f cs).cells = [.fn f cs] := rfl
@[go_sem] theorem cells_ref (i v z o l f : Nat) : (AV.ref i v z o l f).cells = [.ref i v z o l f] := rfl
@[go_sem] theorem ext_tuple (vs : List AV) (i : Nat) : extv (.tuple vs) i = vs[i]? := rfl
@[go_sem] theorem sh_one (c : AV) (cs : List AV) : shaped .one (c :: cs) = some c := rfl
@[go_sem] theorem sh_agg (n : Nat) (cs : List AV) : shaped (.agg n) cs = if n ≤ cs.length then some (.agg (cs.take n)) else none := rfl
@[go_sem] theorem nchk_cptr (cs : List AV) : nchkv (.cptr cs) = some (.cptr cs) := rfl
@[go_sem] theorem nchk_bptr (i v o : Nat) : nchkv (.bptr i v o) = some (.bptr i v o) := rfl
@[go_sem] theorem nchk_iptr (x : AV) (i o : Nat) : nchkv (.iptr x i o) = some (.iptr x i o) := rfl
@[go_sem] theorem nchk_fn (f : Nat) (cs : List AV) : nchkv (.fn f cs) = some (.fn f cs) := rfl
@[go_sem] theorem padd_cptr (cs : List AV) (k : Nat) : padd (.cptr cs) k = some (.cptr (cs.drop k)) := rfl
@[go_sem] theorem padd_bptr (i v o k : Nat) : padd (.bptr i v o) k = some (.bptr i v (o + k)) := rfl
@[go_sem] theorem padd_iptr (x : AV) (i o k : Nat) : padd (.iptr x i o) k = some (.iptr x i (o + k)) := rfl
@[go_sem] theorem lay_nil (env : Env) (cs : List AV) : lay env [] cs = some cs := rfl
def layC (env : Env) (n : Nat) (v : AV) (r : List (Nat × Nat × Opd)) (o : Option (List AV)) : Option (List AV) :=
 if v.cells.length = n ∧ v.val = true then o.bind (lay env r) else none
theorem lay_cons (env : Env) (off n : Nat) (x : Opd) (r : List (Nat × Nat × Opd)) (cs : List AV) :
  lay env ((off,n,x) :: r) cs = layC env n (x.ev env) r (splice cs off (x.ev env).cells) := rfl
@[go_sem] theorem layC_some (env : Env) (n : Nat) (v : AV) (r : List (Nat × Nat × Opd)) (cs : List AV) : layC env n v r (some cs) = if v.cells.length = n ∧ v.val = true then lay env r cs else none := by
 unfold layC; split <;> rfl
attribute [go_sem] lay_cons
attribute [go_sem] splice
theorem splice_ok {cs new : List AV} {off : Nat} (h : off + new.length ≤ cs.length) : splice cs off new = some (cs.take off ++ new ++ cs.drop (off + new.length)) := by simp [splice,h]
@[go_sem] theorem weak_int (k : IntKind) (n : Int) : weak (.int k n) = .int k n := rfl
@[go_sem] theorem weak_bool (b : Bool) : weak (.bool b) = .bool b := rfl
@[go_sem] theorem weak_str (l : List UInt8) : weak (.str l) = .str l := rfl
@[go_sem] theorem weak_agg (cs : List AV) : weak (.agg cs) = .agg cs := rfl
@[go_sem] theorem weak_lst (z : Nat) (cs : List AV) : weak (.lst z cs) = .lst z cs := rfl
@[go_sem] theorem weak_own (z : Nat) (cs : List AV) : weak (.own z cs) = .lst z cs := rfl
@[go_sem] theorem weak_fn (f : Nat) (cs : List AV) : weak (.fn f cs) = .fn f cs := rfl
@[go_sem] theorem weak_ref (i v z o l f : Nat) : weak (.ref i v z o l f) = .ref i v z o l f := rfl
@[go_sem] theorem weak_tuple (cs : List AV) : weak (.tuple cs) = .tuple (cs.map weak1) := rfl
@[go_sem] theorem weak1_int (k : IntKind) (n : Int) : weak1 (.int k n) = .int k n := rfl
@[go_sem] theorem weak1_bool (b : Bool) : weak1 (.bool b) = .bool b := rfl
@[go_sem] theorem weak1_str (l : List UInt8) : weak1 (.str l) = .str l := rfl
@[go_sem] theorem weak1_agg (cs : List AV) : weak1 (.agg cs) = .agg cs := rfl
@[go_sem] theorem weak1_lst (z : Nat) (cs : List AV) : weak1 (.lst z cs) = .lst z cs := rfl
@[go_sem] theorem weak1_own (z : Nat) (cs : List AV) : weak1 (.own z cs) = .lst z cs := rfl
@[go_sem] theorem weak1_fn (f : Nat) (cs : List AV) : weak1 (.fn f cs) = .fn f cs := rfl
@[go_sem] theorem weak1_ref (i v z o l f : Nat) : weak1 (.ref i v z o l f) = .ref i v z o l f := rfl
@[go_sem] theorem kill_nil (cx : Cx) (h : Heap) : killAll cx [] h = h := rfl
theorem get_fr (h fr : Heap) (s : Nat) : (h ++ fr)[h.length + s]? = fr[s]? := by
 rw [List.getElem?_append_right (by omega)]; congr 1; omega
theorem set_fr (h fr : Heap) (s : Nat) (b : Nat × Blk) : (h ++ fr).set (h.length + s) b = h ++ fr.set s b := by
 rw [List.set_append_right _ _ (by omega)]; congr 2; omega
def killF (s : Nat) (ss : List Nat) (lo ns : Nat) (h fr : Heap) : Option (Nat × Blk) → Heap
 | some (v,_) => killAll ⟨lo,h.length,ns,none⟩ ss (h ++ fr.set s (v,.dead))
 | none => killAll ⟨lo,h.length,ns,none⟩ ss (h ++ fr)
@[go_sem] theorem killF_some (s : Nat) (ss : List Nat) (lo ns : Nat) (h fr : Heap) (v : Nat) (b : Blk) : killF s ss lo ns h fr (some (v,b)) = killAll ⟨lo,h.length,ns,none⟩ ss (h ++ fr.set s (v,.dead)) := rfl
@[go_sem] theorem kill_cons (lo ns : Nat) (h fr : Heap) (s : Nat) (ss : List Nat) : killAll ⟨lo,h.length,ns,none⟩ (s :: ss) (h ++ fr) = killF s ss lo ns h fr fr[s]? := by
 simp only [killAll,get_fr]
 cases fr[s]? with
 | none => rfl
 | some b => obtain ⟨v,b⟩ := b; simp only [killF,set_fr]
def mkF (s ns : Nat) (b : Blk) (h fr : Heap) : Option (Nat × Blk) → Option (Nat × Heap)
 | some (v,_) => if s < ns then some (v + 1,h ++ fr.set s (v + 1,b)) else none
 | none => none
@[go_sem] theorem mkF_some (s ns : Nat) (b : Blk) (h fr : Heap) (v : Nat) (b0 : Blk) : mkF s ns b h fr (some (v,b0)) = if s < ns then some (v + 1,h ++ fr.set s (v + 1,b)) else none := rfl
theorem fits_none {lo base ns : Nat} (b : Blk) : b.fits ⟨lo,base,ns,none⟩ = true := by
 cases b <;> simp [Blk.fits,Cx.fit]
@[go_sem] theorem mkAt_fr (lo ns s : Nat) (b : Blk) (h fr : Heap) : mkAt ⟨lo,h.length,ns,none⟩ s b (h ++ fr) = mkF s ns b h fr fr[s]? := by
 simp only [mkAt,fits_none,get_fr,and_true]
 cases fr[s]? with
 | none => simp [mkF]
 | some x => obtain ⟨v,b0⟩ := x; simp only [mkF,set_fr]
def pcF (v off : Nat) : Option (Nat × Blk) → Option (List AV)
 | some (v',.box cs) => if v' = v then some (cs.drop off) else none
 | _ => none
@[go_sem] theorem pcF_box (v off v' : Nat) (cs : List AV) : pcF v off (some (v',.box cs)) = if v' = v then some (cs.drop off) else none := rfl
theorem pc_bptr (h : Heap) (id ver off : Nat) : pcells h (.bptr id ver off) = pcF ver off h[id]? := by
 simp only [pcells]
 cases h[id]? with
 | none => rfl
 | some x => obtain ⟨v,b⟩ := x; cases b <;> rfl
@[go_sem] theorem pc_bptr_fr (h fr : Heap) (s ver off : Nat) : pcells (h ++ fr) (.bptr (h.length + s) ver off) = pcF ver off fr[s]? := by rw [pc_bptr,get_fr]
@[go_sem] theorem pc_cptr (h : Heap) (cs : List AV) : pcells h (.cptr cs) = some cs := rfl
theorem pc_iptr {h : Heap} {v : AV} {es : List AV} {i off : Nat} (hv : asList0 h v = some es) (hi : i < es.length) : pcells h (.iptr v i off) = some ((es[i]).cells.drop off) := by
 simp [pcells,hv,hi]
def psB (s lo ns ver off : Nat) (h fr : Heap) (v : AV) : Option (Nat × Blk) → Option Heap
 | some (v',.box cs) => if v' = ver then (splice cs off v.cells).map fun cs => h ++ fr.set s (ver,.box cs) else none
 | _ => none
@[go_sem] theorem psB_box (s lo ns ver off : Nat) (h fr : Heap) (v : AV) (v' : Nat) (cs : List AV) : psB s lo ns ver off h fr v (some (v',.box cs)) = if v' = ver then (splice cs off v.cells).map fun cs => h ++ fr.set s (ver,.box cs) else none := rfl
theorem ps_bptr {lo ns sz s ver off : Nat} {h fr : Heap} {v : AV} (hlo : lo ≤ h.length) :
  pstore ⟨lo,h.length,ns,none⟩ (h ++ fr) sz (.bptr (h.length + s) ver off) v = if v.cells.length = sz ∧ v.val = true then psB s lo ns ver off h fr v fr[s]? else none := by
 by_cases hv : v.cells.length = sz ∧ v.val = true
 ·simp only [pstore,hv,and_self,if_true,get_fr]
  cases fr[s]? with
  | none => rfl
  | some x =>
   obtain ⟨w,b⟩ := x
   cases b with
   | box cs =>
    have hle : lo ≤ h.length + s := by omega
    by_cases hw : w = ver
    ·simp [psB,hw,hle,Cx.fit,set_fr]
    ·simp [psB,hw]
   | _ => rfl
 ·simp [pstore,hv]
@[go_sem] theorem ck_elem (cx : Cx) (env : Env) (h : Heap) (t : Nat) : Chk.ok cx env h (.elem t) = match env.get t with | .iptr .. | .cptr .. => true | _ => false := rfl
@[go_sem] theorem ck_box (cx : Cx) (env : Env) (h : Heap) (t : Nat) : Chk.ok cx env h (.box t) = match env.get t with | .bptr .. | .cptr .. => true | _ => false := rfl
@[go_sem] theorem ck_fn (cx : Cx) (env : Env) (h : Heap) (t : Nat) (gs : List Nat) : Chk.ok cx env h (.fn t gs) = match env.get t with | .fn g _ => gs.contains g | _ => false := rfl
@[go_sem] theorem ck_ne (cx : Cx) (env : Env) (h : Heap) (a b : Nat) : Chk.ok cx env h (.ne a b) = match env.get a,env.get b with | .bptr i _ _,.bptr j _ _ => !decide (i = j) | _,_ => false := rfl
@[go_sem] theorem ck_closed (cx : Cx) (env : Env) (h : Heap) (t : Nat) : Chk.ok cx env h (.closed t) = (env.get t).closed := rfl
def ckD : Option (Nat × Blk) → Bool
 | some (_,.dead) => true
 | _ => false
@[go_sem] theorem ckD_dead (v : Nat) : ckD (some (v,.dead)) = true := rfl
@[go_sem] theorem ck_dead (lo ns : Nat) (env : Env) (h fr : Heap) (s : Nat) : Chk.ok ⟨lo,h.length,ns,none⟩ env (h ++ fr) (.dead s) = ckD fr[s]? := by
 simp only [Chk.ok,get_fr]; rfl
def ckN : Option (Nat × Blk) → Bool
 | some (_,.dead) => true
 | some (_,.arr ..) => true
 | _ => false
@[go_sem] theorem ckN_dead (v : Nat) : ckN (some (v,.dead)) = true := rfl
@[go_sem] theorem ckN_arr (v z : Nat) (es : List AV) : ckN (some (v,.arr z es)) = true := rfl
@[go_sem] theorem ck_nobox (lo ns : Nat) (env : Env) (h fr : Heap) (s : Nat) : Chk.ok ⟨lo,h.length,ns,none⟩ env (h ++ fr) (.nobox s) = ckN fr[s]? := by
 simp only [Chk.ok,get_fr]; rfl
@[go_sem] theorem closed_int (k : IntKind) (n : Int) : (AV.int k n).closed = true := rfl
@[go_sem] theorem closed_bool (b : Bool) : (AV.bool b).closed = true := rfl
@[go_sem] theorem closed_str (l : List UInt8) : (AV.str l).closed = true := rfl
@[go_sem] theorem closed_lst (z : Nat) (cs : List AV) : (AV.lst z cs).closed = true := rfl
@[go_sem] theorem closed_nilSl : AV.nilSl.closed = true := rfl
@[go_sem] theorem closed_agg (cs : List AV) : (AV.agg cs).closed = AV.closedL cs := rfl
@[go_sem] theorem closedL_nil : AV.closedL [] = true := rfl
@[go_sem] theorem closedL_cons (c : AV) (cs : List AV) : AV.closedL (c :: cs) = (c.closed && AV.closedL cs) := rfl
structure Sl (h : Heap) (z : Nat) (v : AV) (es : List AV) : Prop where
 zok : zok z v = true
 elems : ∀ fr,asList0 (h ++ fr) v = some es
 len : slen v = some es.length
theorem Sl.elems0 {h : Heap} {z : Nat} {v : AV} {es : List AV} (s : Sl h z v es) : asList0 h v = some es := by simpa using s.elems []
theorem Sl.app {h : Heap} {z : Nat} {v : AV} {es : List AV} (s : Sl h z v es) (fr : Heap) : Sl (h ++ fr) z v es := ⟨s.zok,fun f => by simpa using s.elems (fr ++ f),s.len⟩
theorem Sl.list0 {h : Heap} {z : Nat} {v : AV} {es : List AV} (s : Sl h z v es) : asList h z v = some es := by simp [asList,s.zok,s.elems0]
theorem Sl.lst (h : Heap) (z : Nat) (es : List AV) : Sl h z (.lst z es) es := ⟨by simp [VI.zok],fun _ => rfl,rfl⟩
theorem Sl.lst0 (h : Heap) (z z' : Nat) : Sl h z (.lst z' []) [] := ⟨by simp [VI.zok],fun _ => rfl,rfl⟩
theorem Sl.nil (h : Heap) (z : Nat) : Sl h z .nilSl [] := ⟨rfl,fun _ => rfl,rfl⟩
theorem Sl.ref {h fr : Heap} {s ver z off len fill : Nat} {es : List AV} (hb : fr[s]? = some (ver,.arr z es)) (hl : es.length = fill) (hle : off + len ≤ fill) : Sl (h ++ fr) z (.ref (h.length + s) ver z off len fill) ((es.drop off).take len) :=
 ⟨by simp [VI.zok],fun f => by
  have : (h ++ fr ++ f)[h.length + s]? = some (ver,.arr z es) := by
   rw [List.getElem?_append_left (by have := (List.getElem?_eq_some_iff.mp hb).1; simp; omega),get_fr,hb]
  rw [List.append_assoc] at this
  simp [asList0,this,hl,hle],by simp [slen]; omega⟩
theorem Sl.refAll {h fr : Heap} {s ver z : Nat} {es : List AV} (hb : fr[s]? = some (ver,.arr z es)) : Sl (h ++ fr) z (.ref (h.length + s) ver z 0 es.length es.length) es := by
 have := Sl.ref (h := h) (off := 0) (len := es.length) hb rfl (by omega)
 simpa using this
theorem sidx_sl {h : Heap} {z : Nat} {v : AV} {es : List AV} {k : IntKind} {i : Int} (s : Sl h z v es) (h0 : 0 ≤ i) (h1 : i < es.length) : sidx z v (.int k i) = some i.toNat :=
 sidx_ok s.zok s.len (idx_ok h0 h1)
theorem lenv_sl {v : AV} {n : Nat} (h : slen v = some n) : lenv false v = some (.int .i64 n) := by simp [lenv,h]
@[go_sem] theorem lenv_str (l : List UInt8) : lenv true (.str l) = some (.int .i64 l.length) := rfl
def tk (f : XFn) (h : Heap) : Option (Ex × St) → Option (AV × Heap)
 | some (.exit _,_) => none
 | some (_,(env,h')) => (resVal env h' f.res).bind fun v => (giveRes h.length v h').map fun r => (r,if f.isOpen = true then h'.take h.length else h)
 | none => none
theorem enter_eq (L : Lib) (x : XFn) (args : List AV) (h : Heap) (lo : Nat) (hl : args.length = x.np) (hlo : x.isOpen = true → lo ≤ h.length) :
  enter x (runC L) args h lo = tk x h (runC L ⟨if x.isOpen = true then lo else h.length,h.length,x.ns,none⟩ x.code (argEnv 0 args,h ++ List.replicate x.ns (0,.dead))) := by
 unfold enter
 rw [if_pos ⟨hl,hlo⟩]
 dsimp only
 cases runC L _ x.code _ with
 | none => rfl
 | some r => obtain ⟨e,env,h'⟩ := r; cases e <;> rfl
@[go_sem] theorem tk_norm (f : XFn) (h : Heap) (env : Env) (h' : Heap) : tk f h (some (.norm,(env,h'))) = (resVal env h' f.res).bind fun v => (giveRes h.length v h').map fun r => (r,if f.isOpen = true then h'.take h.length else h) := rfl
@[go_sem] theorem tk_ret (f : XFn) (h : Heap) (env : Env) (h' : Heap) : tk f h (some (.ret,(env,h'))) = (resVal env h' f.res).bind fun v => (giveRes h.length v h').map fun r => (r,if f.isOpen = true then h'.take h.length else h) := rfl
@[go_sem] theorem tk_none (f : XFn) (h : Heap) : tk f h none = none := rfl
@[go_sem] theorem tk_ite (f : XFn) (h : Heap) (p : Prop) [Decidable p] (x y : Out) : tk f h (if p then x else y) = if p then tk f h x else tk f h y := by split <;> rfl
@[go_sem] theorem rv_one (env : Env) (h : Heap) (r : XRes) : resVal env h [r] = resOne env h r := rfl
@[go_sem] theorem rv_nil (env : Env) (h : Heap) : resVal env h [] = some (.tuple []) := rfl
@[go_sem] theorem rv_two (env : Env) (h : Heap) (r r' : XRes) (rs : List XRes) : resVal env h (r :: r' :: rs) = (resAll env h (r :: r' :: rs)).map .tuple := rfl
@[go_sem] theorem ra_nil (env : Env) (h : Heap) : resAll env h [] = some [] := rfl
@[go_sem] theorem ra_cons (env : Env) (h : Heap) (r : XRes) (rs : List XRes) : resAll env h (r :: rs) = (resOne env h r).bind fun v => (resAll env h rs).map fun vs => v :: vs := rfl
@[go_sem] theorem ro_tmp (env : Env) (h : Heap) (t : Nat) : resOne env h (.tmp t) = some (env.get t) := rfl
@[go_sem] theorem ro_cell (env : Env) (h : Heap) (t : Nat) (sh : Sh) : resOne env h (.cell t sh) = (pcells h (env.get t)).bind fun cs => shaped sh cs := rfl
@[go_sem] theorem gr_int (b : Nat) (k : IntKind) (n : Int) (h : Heap) : giveRes b (.int k n) h = some (.int k n) := rfl
@[go_sem] theorem gr_bool (b : Nat) (c : Bool) (h : Heap) : giveRes b (.bool c) h = some (.bool c) := rfl
@[go_sem] theorem gr_str (b : Nat) (c : List UInt8) (h : Heap) : giveRes b (.str c) h = some (.str c) := rfl
@[go_sem] theorem gr_lst (b : Nat) (z : Nat) (es : List AV) (h : Heap) : giveRes b (.lst z es) h = some (.lst z es) := rfl
@[go_sem] theorem gr_nil (b : Nat) (h : Heap) : giveRes b .nilSl h = some (.own 0 []) := rfl
@[go_sem] theorem gr_tuple (b : Nat) (cs : List AV) (h : Heap) : giveRes b (.tuple cs) h = (giveL b cs h).map fun (cs,_) => .tuple cs := rfl
def gvN (base : Nat) (cs : List AV) : Option (AV × Heap) → Option (List AV × Heap)
 | some (c,h) => (giveL base cs h).map fun (cs,h) => (c :: cs,h)
 | none => none
@[go_sem] theorem gvN_some (base : Nat) (cs : List AV) (c : AV) (h : Heap) : gvN base cs (some (c,h)) = (giveL base cs h).map fun (cs,h) => (c :: cs,h) := rfl
@[go_sem] theorem gl_nil (b : Nat) (h : Heap) : giveL b [] h = some ([],h) := rfl
@[go_sem] theorem gl_cons (b : Nat) (c : AV) (cs : List AV) (h : Heap) : giveL b (c :: cs) h = gvN b cs (give b c h) := by
 simp only [giveL]; cases give b c h <;> rfl
@[go_sem] theorem gv_int (b : Nat) (k : IntKind) (n : Int) (h : Heap) : give b (.int k n) h = some (.int k n,h) := rfl
@[go_sem] theorem gv_bool (b : Nat) (c : Bool) (h : Heap) : give b (.bool c) h = some (.bool c,h) := rfl
@[go_sem] theorem gv_str (b : Nat) (c : List UInt8) (h : Heap) : give b (.str c) h = some (.str c,h) := rfl
@[go_sem] theorem gv_lst (b z : Nat) (es : List AV) (h : Heap) : give b (.lst z es) h = some (.lst z es,h) := rfl
@[go_sem] theorem gv_nil (b : Nat) (h : Heap) : give b .nilSl h = some (.own 0 [],h) := rfl
attribute [go_sem] List.replicate List.append_nil decide_true decide_false Bool.false_eq_true Bool.true_and Bool.false_and Bool.and_true Bool.and_false Bool.not_true Bool.not_false Bool.or_true Bool.true_or Bool.or_false Bool.false_or Option.bind_some Option.bind_none Option.map_some Option.map_none List.getElem?_cons_zero List.getElem?_cons_succ List.getElem?_nil List.set_cons_zero List.set_cons_succ List.cons_append List.nil_append List.map_cons List.map_nil decide_eq_true_eq Bool.not_eq_true' decide_eq_false_iff_not Bool.and_eq_true Bool.or_eq_true List.drop_zero List.drop_succ_cons List.drop_nil List.take_succ_cons List.take_zero List.length_cons List.length_nil eq_self
theorem enter_closed {L : Lib} {x : XFn} {args : List AV} {h : Heap} {lo : Nat} (hl : args.length = x.np) (hc : x.isOpen = false) :
  enter x (runC L) args h lo = tk x h (runC L ⟨h.length,h.length,x.ns,none⟩ x.code (argEnv 0 args,h ++ List.replicate x.ns (0,.dead))) := by
 rw [enter_eq L x args h lo hl (by simp [hc])]
 simp [hc]
theorem run_closed {L : Lib} {f : Nat} {x : XFn} {args : List AV} {h : Heap} {lo : Nat} (ho : L.orc f args h = none) (hf : L.fns f = some x) (hl : args.length = x.np) (hc : x.isOpen = false) (hb : L.brw f = false := by rfl) :
  (run L).fn f args h lo = tk x h (runC L ⟨h.length,h.length,x.ns,none⟩ x.code (argEnv 0 args,h ++ List.replicate x.ns (0,.dead))) := by
 rw [run_eq,ho,hf]
 simp only [Option.bind_some,enterB,hb,Bool.false_eq_true,if_false]
 exact enter_closed hl hc
theorem run_open {L : Lib} {f : Nat} {x : XFn} {args : List AV} {h : Heap} {lo : Nat} (ho : L.orc f args h = none) (hf : L.fns f = some x) (hl : args.length = x.np) (hc : x.isOpen = true) (hlo : lo ≤ h.length) (hb : L.brw f = false := by rfl) :
  (run L).fn f args h lo = tk x h (runC L ⟨lo,h.length,x.ns,none⟩ x.code (argEnv 0 args,h ++ List.replicate x.ns (0,.dead))) := by
 rw [run_eq,ho,hf]
 simp only [Option.bind_some,enterB,hb,Bool.false_eq_true,if_false]
 rw [enter_eq L x args h lo hl (by simp [hlo])]
 simp [hc]
theorem run_lent {L : Lib} {f : Nat} {x : XFn} {args vs : List AV} {h : Heap} {lo : Nat} {r : AV} (ho : L.orc f args h = none) (hf : L.fns f = some x) (hb : L.brw f = true) (hv : viewL h args = some vs) (he : enter x (runC L) vs [] 0 = some (r,[])) (hfl : r.flatR = true) :
  (run L).fn f args h lo = some (r,h) := by
 rw [run_eq,ho,hf]
 simp [enterB,hb,hv,he,hfl]
def PureSl (z : Nat) (v : AV) (es : List AV) : Prop := (v = .nilSl ∧ es = []) ∨ (∃ z',(v = .lst z' es ∨ v = .lsf z' es) ∧ (z' = z ∨ es = []))
theorem PureSl.sl {z : Nat} {v : AV} {es : List AV} (p : PureSl z v es) (h : Heap) : Sl h z v es := by
 rcases p with ⟨rfl,rfl⟩ | ⟨z',rfl | rfl,rfl | rfl⟩
 ·exact Sl.nil h z
 ·exact Sl.lst h z' es
 ·exact Sl.lst0 h z z'
 ·exact ⟨by simp [VI.zok],fun _ => rfl,rfl⟩
 ·exact ⟨by simp [VI.zok],fun _ => rfl,rfl⟩
theorem view_sl {h : Heap} {z : Nat} {v : AV} {es : List AV} (s : Sl h z v es) : ∃ v',view h v = some v' ∧ PureSl z v' es := by
 have hz := s.zok
 have he := s.elems0
 have hl := s.len
 cases v <;> simp only [slen,reduceCtorEq,Option.some.injEq] at hl
 case nilSl => exact ⟨.nilSl,by simp [view],.inl ⟨rfl,List.eq_nil_of_length_eq_zero hl.symm⟩⟩
 case lst z' es' =>
  simp only [asList0,Option.some.injEq] at he
  subst he
  exact ⟨.lst z' es',by simp [view],.inr ⟨z',.inl rfl,by
   simp only [VI.zok,Bool.or_eq_true,beq_iff_eq,List.isEmpty_iff] at hz
   exact hz.imp Eq.symm id⟩⟩
 case lsf z' es' =>
  simp only [asList0,Option.some.injEq] at he
  subst he
  exact ⟨.lsf z' es',by simp [view],.inr ⟨z',.inr rfl,by
   simp only [VI.zok,Bool.or_eq_true,beq_iff_eq,List.isEmpty_iff] at hz
   exact hz.imp Eq.symm id⟩⟩
 case ref id ver z' off len fill =>
  simp only [VI.zok,beq_iff_eq] at hz
  subst hz
  exact ⟨.lst z es,by simp [view,he],.inr ⟨z,.inl rfl,.inl rfl⟩⟩
end Go.VI

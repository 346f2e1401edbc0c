/- Walking the evaluator by rewriting: one equation for each form of code and of operation. -/
import Derived.Test.YtfpoegnmeoghpaaGreatDoorVIU
set_option linter.unusedVariables false
set_option linter.unusedSimpArgs false
namespace Go.VI
section
variable (L : Lib) (C : Callee) (cx : Cx)
noncomputable def sq (b : XC) : Out → Out
 | some (.norm,st) => runC L cx b st
 | some (e,st) => some (e,st)
 | none => none
def rg (keep : List Nat) : Option (Env × Heap) → Out
 | some (env,h) => some (.norm,(env.keep keep,h))
 | none => none
noncomputable def cd (a b : XC) (env : Env) (h : Heap) : AV → Out
 | .bool c => if c = true then runC L cx a (env,h) else runC L cx b (env,h)
 | _ => none
def bk (id : Nat) : Out → Out
 | some (.exit j,st) => if j = id then some (.norm,st) else some (.exit j,st)
 | r => r
theorem w_skip (env : Env) (h : Heap) : runC L cx .skip (env,h) = some (.norm,(env,h)) := runC_skip L cx _
theorem w_exit (id : Nat) (env : Env) (h : Heap) : runC L cx (.exit id) (env,h) = some (.exit id,(env,h)) := runC_exit L cx _ _
theorem w_ret (env : Env) (h : Heap) : runC L cx .ret (env,h) = some (.ret,(env,h)) := runC_ret L cx _
theorem w_reg (dr : Bool) (keep kill : List Nat) (ops : List XOp) (env : Env) (h : Heap) :
  runC L cx (.reg dr keep kill ops) (env,h) = rg keep (xops (run L) cx ops env (killAll cx kill h)) := by
 rw [runC_reg]
 cases xops (run L) cx ops env (killAll cx kill h) with
 | none => rfl
 | some r => rfl
theorem w_seq (a b : XC) (env : Env) (h : Heap) : runC L cx (.seq a b) (env,h) = sq L cx b (runC L cx a (env,h)) := by
 rw [runC_seq]
 cases runC L cx a (env,h) with
 | none => rfl
 | some r =>
  obtain ⟨e,st⟩ := r
  cases e <;> simp [sq]
theorem w_cond (c : Opd) (a b : XC) (env : Env) (h : Heap) : runC L cx (.cond c a b) (env,h) = cd L cx a b env h (c.ev env) := by
 rw [runC_cond]
 cases c.ev env <;> simp [toBool,cd]
theorem w_blk (id : Nat) (a : XC) (env : Env) (h : Heap) : runC L cx (.blk id a) (env,h) = bk id (runC L cx a (env,h)) := by
 rw [runC_blk]
 cases runC L cx a (env,h) with
 | none => rfl
 | some r =>
  obtain ⟨e,st⟩ := r
  cases e <;> simp [bk,Ex.inBlk]
  split <;> simp_all
theorem w_pre (keep : List Nat) (a : XC) (env : Env) (h : Heap) : runC L cx (.pre keep a) (env,h) = runC L cx a (env.keep keep,h) := runC_pre L cx _ _ _
noncomputable def fzc (t : Nat) (c : XC) (env : Env) : Option (AV × Heap) → Out
 | some (v,h) => runC L cx c (env.set t v,h)
 | none => none
theorem fzc_some (t : Nat) (c : XC) (env : Env) (v : AV) (h : Heap) : fzc L cx t c env (some (v,h)) = runC L cx c (env.set t v,h) := rfl
theorem w_fz (t : Nat) (a : XC) (env : Env) (h : Heap) : runC L cx (.fz t a) (env,h) = fzc L cx t a env (frz cx.base false (env.get t) h) := by
 rw [runC_fz]
 cases frz cx.base false (env.get t) h <;> rfl
noncomputable def lp (c : XC) : Out → Out
 | some (.norm,st) => runC L cx (.loop c) st
 | some (e,st) => some (e,st)
 | none => none
theorem w_loop (c : XC) (env : Env) (h : Heap) : runC L cx (.loop c) (env,h) = lp L cx c (runC L cx c (env,h)) := by
 rw [runC_loop]
 cases runC L cx c (env,h) with
 | none => rfl
 | some r =>
  obtain ⟨e,st⟩ := r
  cases e <;> simp [lp]
@[go_sem] theorem sq_norm (b : XC) (st : St) : sq L cx b (some (.norm,st)) = runC L cx b st := rfl
@[go_sem] theorem sq_exit (b : XC) (i : Nat) (st : St) : sq L cx b (some (.exit i,st)) = some (.exit i,st) := rfl
@[go_sem] theorem sq_ret (b : XC) (st : St) : sq L cx b (some (.ret,st)) = some (.ret,st) := rfl
@[go_sem] theorem sq_none (b : XC) : sq L cx b none = none := rfl
@[go_sem] theorem sq_ite (b : XC) (p : Prop) [Decidable p] (x y : Out) : sq L cx b (if p then x else y) = if p then sq L cx b x else sq L cx b y := by split <;> rfl
@[go_sem] theorem rg_some (keep : List Nat) (env : Env) (h : Heap) : rg keep (some (env,h)) = some (.norm,(env.keep keep,h)) := rfl
@[go_sem] theorem rg_none (keep : List Nat) : rg keep none = none := rfl
@[go_sem] theorem rg_ite (keep : List Nat) (p : Prop) [Decidable p] (x y : Option (Env × Heap)) : rg keep (if p then x else y) = if p then rg keep x else rg keep y := by split <;> rfl
@[go_sem] theorem cd_bool (a b : XC) (env : Env) (h : Heap) (c : Bool) : cd L cx a b env h (.bool c) = if c = true then runC L cx a (env,h) else runC L cx b (env,h) := rfl
@[go_sem] theorem bk_norm (id : Nat) (st : St) : bk id (some (.norm,st)) = some (.norm,st) := rfl
@[go_sem] theorem bk_ret (id : Nat) (st : St) : bk id (some (.ret,st)) = some (.ret,st) := rfl
@[go_sem] theorem bk_exit (id j : Nat) (st : St) : bk id (some (.exit j,st)) = if j = id then some (.norm,st) else some (.exit j,st) := rfl
@[go_sem] theorem bk_none (id : Nat) : bk id none = none := rfl
@[go_sem] theorem bk_ite (id : Nat) (p : Prop) [Decidable p] (x y : Out) : bk id (if p then x else y) = if p then bk id x else bk id y := by split <;> rfl
@[go_sem] theorem lp_norm (c : XC) (st : St) : lp L cx c (some (.norm,st)) = runC L cx (.loop c) st := rfl
@[go_sem] theorem lp_exit (c : XC) (i : Nat) (st : St) : lp L cx c (some (.exit i,st)) = some (.exit i,st) := rfl
@[go_sem] theorem lp_ret (c : XC) (st : St) : lp L cx c (some (.ret,st)) = some (.ret,st) := rfl
@[go_sem] theorem lp_none (c : XC) : lp L cx c none = none := rfl
@[go_sem] theorem lp_ite (c : XC) (p : Prop) [Decidable p] (x y : Out) : lp L cx c (if p then x else y) = if p then lp L cx c x else lp L cx c y := by split <;> rfl
def nx (d : Option Nat) (os : List XOp) (env : Env) : Option (AV × Heap) → Option (Env × Heap)
 | some (v,h) => xops C cx os (env.put d v) h
 | none => none
def gx (w : Bool) (d : Option Nat) (ck : List Chk) (op : XI) (os : List XOp) (env : Env) (h : Heap) : AV → Option (Env × Heap)
 | .bool b => if b = w then xops C cx (⟨d,none,ck,op⟩ :: os) env h else xops C cx os (env.put d (.tuple [])) h
 | .tuple [] => xops C cx os (env.put d (.tuple [])) h
 | _ => none
theorem w_nil (env : Env) (h : Heap) : xops C cx [] env h = some (env,h) := rfl
theorem w_op (d : Option Nat) (op : XI) (os : List XOp) (env : Env) (h : Heap) : xops C cx (⟨d,none,[],op⟩ :: os) env h = nx C cx d os env (xi C cx env h op) := by
 simp only [xops,xop,xic,List.all_nil,if_true]
 cases xi C cx env h op with
 | none => rfl
 | some r => rfl
theorem w_chk (d : Option Nat) (c : Chk) (ck : List Chk) (op : XI) (os : List XOp) (env : Env) (h : Heap) :
  xops C cx (⟨d,none,c :: ck,op⟩ :: os) env h = if Chk.ok cx env h c = true then xops C cx (⟨d,none,ck,op⟩ :: os) env h else none := by
 simp only [xops,xop,xic,List.all_cons,Bool.and_eq_true]
 by_cases h1 : Chk.ok cx env h c = true
 ·simp [h1]
 ·simp [h1]
theorem w_guard (d : Option Nat) (g : Nat) (w : Bool) (ck : List Chk) (op : XI) (os : List XOp) (env : Env) (h : Heap) :
  xops C cx (⟨d,some (g,w),ck,op⟩ :: os) env h = gx C cx w d ck op os env h (env.get g) := by
 simp only [xops,xop,gx]
 cases env.get g with
 | bool b =>
  by_cases hb : b = w
  ·simp [wantv,hb,xic]
  ·simp [wantv,hb,xic]
 | tuple cs => cases cs <;> simp [wantv]
 | _ => simp [wantv]
@[go_sem] theorem nx_some (d : Option Nat) (os : List XOp) (env : Env) (v : AV) (h : Heap) : nx C cx d os env (some (v,h)) = xops C cx os (env.put d v) h := rfl
@[go_sem] theorem nx_none (d : Option Nat) (os : List XOp) (env : Env) : nx C cx d os env none = none := rfl
@[go_sem] theorem nx_ite (d : Option Nat) (os : List XOp) (env : Env) (p : Prop) [Decidable p] (x y : Option (AV × Heap)) : nx C cx d os env (if p then x else y) = if p then nx C cx d os env x else nx C cx d os env y := by split <;> rfl
@[go_sem] theorem gx_bool (w : Bool) (d : Option Nat) (ck : List Chk) (op : XI) (os : List XOp) (env : Env) (h : Heap) (b : Bool) :
  gx C cx w d ck op os env h (.bool b) = if b = w then xops C cx (⟨d,none,ck,op⟩ :: os) env h else xops C cx os (env.put d (.tuple [])) h := rfl
@[go_sem] theorem gx_tuple (w : Bool) (d : Option Nat) (ck : List Chk) (op : XI) (os : List XOp) (env : Env) (h : Heap) : gx C cx w d ck op os env h (.tuple []) = xops C cx os (env.put d (.tuple [])) h := rfl
def ov (h : Heap) : Option AV → Option (AV × Heap)
 | some v => some (v,h)
 | none => none
@[go_sem] theorem ov_some (h : Heap) (v : AV) : ov h (some v) = some (v,h) := rfl
@[go_sem] theorem ov_none (h : Heap) : ov h none = none := rfl
@[go_sem] theorem ov_ite (h : Heap) (p : Prop) [Decidable p] (x y : Option AV) : ov h (if p then x else y) = if p then ov h x else ov h y := by split <;> rfl
theorem map_ov (h : Heap) (o : Option AV) : (o.map fun v => (v,h)) = ov h o := by cases o <;> rfl
variable (env : Env) (h : Heap)
theorem x_mov (x : Opd) : xi C cx env h (.mov x) = some (x.ev env,h) := rfl
def pk (a b : AV) (h : Heap) : AV → Option (AV × Heap)
 | .bool r => some (if r = true then a else b,h)
 | _ => none
@[go_sem] theorem pk_bool (a b : AV) (r : Bool) : pk a b h (.bool r) = some (if r = true then a else b,h) := rfl
theorem x_pick (c a b : Opd) : xi C cx env h (.pick c a b) = pk (a.ev env) (b.ev env) h (c.ev env) := by
 simp only [xi]
 cases c.ev env <;> simp [toBool,pk]
theorem x_bin (o : BinOp) (x y : Opd) : xi C cx env h (.bin o x y) = ov h (binv o (x.ev env) (y.ev env)) := map_ov _ _
theorem x_un (o : UnOp) (x : Opd) : xi C cx env h (.un o x) = ov h (unv o (x.ev env)) := map_ov _ _
theorem x_conv (k : IntKind) (x : Opd) : xi C cx env h (.conv k x) = ov h (convv k (x.ev env)) := map_ov _ _
theorem x_eqv (n : Bool) (ks : List Kd) (x y : Opd) : xi C cx env h (.eqv n ks x y) = ov h (eqvv n ks (x.ev env) (y.ev env)) := map_ov _ _
theorem x_isnil (neg : Bool) (x : Opd) : xi C cx env h (.isnil neg x) = ov h (isnilv neg (x.ev env)) := map_ov _ _
theorem x_nchk (x : Opd) : xi C cx env h (.nchk x) = ov h (nchkv (x.ev env)) := map_ov _ _
theorem x_len (s : Bool) (x : Opd) : xi C cx env h (.len s x) = ov h (lenv s (x.ev env)) := map_ov _ _
theorem x_lenA (n : Nat) (x : Opd) : xi C cx env h (.lenA n x) = some (.int .i64 n,h) := rfl
theorem x_minmax (m : Bool) (xs : List Opd) : xi C cx env h (.minmax m xs) = ov h (mmv m (evs env xs)) := map_ov _ _
theorem x_ext (x : Opd) (i : Nat) : xi C cx env h (.ext x i) = ov h (extv (x.ev env) i) := map_ov _ _
theorem x_padd (x : Opd) (k : Nat) : xi C cx env h (.padd x k) = ov h (padd (x.ev env) k) := map_ov _ _
theorem x_slice (z : Option Nat) (x : Opd) (lo hi : Option Opd) : xi C cx env h (.slice z x lo hi) = ov h (slicev z (x.ev env) (lo.map (·.ev env)) (hi.map (·.ev env))) := map_ov _ _
theorem x_build (zero : List AV) (parts : List (Nat × Nat × Opd)) : xi C cx env h (.build zero parts) = ov h ((lay env parts zero).map .agg) := by
 simp only [xi]; cases lay env parts zero <;> rfl
def sh2 (z : Nat) : Option (List AV × Heap) → Option (AV × Heap)
 | some (es,h) => some (.lsf z es,h)
 | none => none
@[go_sem] theorem sh2_some (z : Nat) (es : List AV) (h : Heap) : sh2 z (some (es,h)) = some (.lsf z es,h) := rfl
theorem x_bslice (z : Nat) (zero : AV) (n : Nat) (parts : List (Nat × Opd)) : xi C cx env h (.bslice z zero n parts) = sh2 z (setParts env cx.base z parts (List.replicate n zero) h) := by
 simp only [xi]; cases setParts env cx.base z parts (List.replicate n zero) h <;> rfl
def ixs (z : Nat) (x : AV) (h : Heap) : Option Nat → Option (AV × Heap)
 | some j => some (.iptr x j 0,h)
 | none => none
@[go_sem] theorem ixs_some (z : Nat) (x : AV) (j : Nat) : ixs z x h (some j) = some (.iptr x j 0,h) := rfl
def sidx (z : Nat) (x i : AV) : Option Nat := if zok z x then (slen x).bind fun n => idx i n else none
theorem x_ixS (z : Nat) (x i : Opd) : xi C cx env h (.ixS z x i) = ixs z (x.ev env) h (sidx z (x.ev env) (i.ev env)) := by
 simp only [xi,sidx]
 split
 ·cases slen (x.ev env) with
  | none => rfl
  | some n => simp only [Option.bind_some]; cases idx (i.ev env) n <;> rfl
 ·rfl
theorem sidx_ok {z : Nat} {x i : AV} {n j : Nat} (h1 : zok z x = true) (h2 : slen x = some n) (h3 : idx i n = some j) : sidx z x i = some j := by simp [sidx,h1,h2,h3]
def shv (h : Heap) (sh : Sh) : Option (List AV) → Option (AV × Heap)
 | some cs => ov h (shaped sh cs)
 | none => none
@[go_sem] theorem shv_some (sh : Sh) (cs : List AV) : shv h sh (some cs) = ov h (shaped sh cs) := rfl
theorem x_load (sh : Sh) (x : Opd) : xi C cx env h (.load sh x) = shv h sh (pcells h (x.ev env)) := by
 simp only [xi]
 cases pcells h (x.ev env) with
 | none => rfl
 | some cs => simp only [Option.bind_some,shv,map_ov]
def sto : Option Heap → Option (AV × Heap)
 | some h => some (.undef,h)
 | none => none
@[go_sem] theorem sto_some (h : Heap) : sto (some h) = some (.undef,h) := rfl
theorem x_store (sz : Nat) (x v : Opd) : xi C cx env h (.store sz x v) = sto (pstore cx h sz (x.ev env) (v.ev env)) := by
 simp only [xi]; cases pstore cx h sz (x.ev env) (v.ev env) <;> rfl
def bx (cx : Cx) (s : Nat) : Option (Nat × Heap) → Option (AV × Heap)
 | some (v,h) => some (.bptr (cx.base + s) v 0,h)
 | none => none
@[go_sem] theorem bx_some (s v : Nat) (h : Heap) : bx cx s (some (v,h)) = some (.bptr (cx.base + s) v 0,h) := rfl
theorem x_isnif (neg : Bool) (x : Opd) : xi C cx env h (.isnif neg x) = ov h (isnifv neg (x.ev env)) := map_ov _ _
theorem x_mget (zero : AV) (ok : Bool) (x k : Opd) : xi C cx env h (.mget zero ok x k) = ov h (mgetv h zero ok (x.ev env) (k.ev env)) := map_ov _ _
theorem x_bstr (f : Nat) (x : Opd) : xi C cx env h (.bstr f x) = ov h (bstrv cx (x.ev env) h) := map_ov _ _
theorem x_bwr (s f : Nat) (x y : Opd) : xi C cx env h (.bwr s f x y) = bwrv cx s (x.ev env) (y.ev env) h := rfl
def tsv (h : Heap) : Option (List AV) → Option (AV × Heap)
 | some es => ov h ((bytesOf es).map .str)
 | none => none
@[go_sem] theorem tsv_some (es : List AV) : tsv h (some es) = ov h ((bytesOf es).map .str) := rfl
theorem x_toStr (x : Opd) : xi C cx env h (.toStr x) = tsv h (asList h 1 (x.ev env)) := by
 simp only [xi]
 cases asList h 1 (x.ev env) with
 | none => rfl
 | some es => simp only [Option.bind_some,tsv]; cases bytesOf es <;> rfl
theorem x_mkif (t : Nat) (x : Opd) : xi C cx env h (.mkif t x) = if (x.ev env).closed = true ∧ (x.ev env).val = true then some (.ifc t (x.ev env),h) else none := rfl
def mkr1 (cx : Cx) (s : Nat) : Option (Nat × Heap) → Option (AV × Heap)
 | some (v,h) => some (.yld (cx.base + s) v,h)
 | none => none
@[go_sem] theorem mkr1_some (s v : Nat) (h : Heap) : mkr1 cx s (some (v,h)) = some (.yld (cx.base + s) v,h) := rfl
theorem x_mkmap (s : Nat) (k : IntKind) : xi C cx env h (.mkmap s k) = mkr1 cx s (mkAt cx s (.rcd (Rcd.at (cx.base + s) (.map k [])) (.spc (.map k []))) h) := by
 simp only [xi]; cases mkAt cx s (.rcd (Rcd.at (cx.base + s) (.map k [])) (.spc (.map k []))) h <;> rfl
def mkr2 (cx : Cx) (s : Nat) : Option (Nat × Heap) → Option (AV × Heap)
 | some (v,h) => some (.yld (cx.base + s) v,h.set (cx.base + s) (v,.rcd (Rcd.at (cx.base + s) (.bld (cx.base + s) v none)) (.spc (.bld (cx.base + s) v none))))
 | none => none
@[go_sem] theorem mkr2_some (s v : Nat) (h : Heap) : mkr2 cx s (some (v,h)) = some (.yld (cx.base + s) v,h.set (cx.base + s) (v,.rcd (Rcd.at (cx.base + s) (.bld (cx.base + s) v none)) (.spc (.bld (cx.base + s) v none)))) := rfl
theorem x_mkbld (s : Nat) : xi C cx env h (.mkbld s) = mkr2 cx s (mkAt cx s (.rcd (Rcd.at (cx.base + s) (.bld (cx.base + s) 0 none)) (.spc (.bld (cx.base + s) 0 none))) h) := by
 simp only [xi]; cases mkAt cx s (.rcd (Rcd.at (cx.base + s) (.bld (cx.base + s) 0 none)) (.spc (.bld (cx.base + s) 0 none))) h <;> rfl
def stu : Option Heap → Option (AV × Heap)
 | some h => some (.tuple [],h)
 | none => none
@[go_sem] theorem stu_some (h : Heap) : stu (some h) = some (.tuple [],h) := rfl
theorem x_mput (x k v : Opd) : xi C cx env h (.mput x k v) = if (v.ev env).closed = true ∧ (v.ev env).val = true then sto (mupdv cx h (x.ev env) (k.ev env) (fun n => mset n (v.ev env))) else none := by
 simp only [xi]
 split
 ·cases mupdv cx h (x.ev env) (k.ev env) (fun n => mset n (v.ev env)) <;> rfl
 ·rfl
theorem x_mdel (x k : Opd) : xi C cx env h (.mdel x k) = stu (mupdv cx h (x.ev env) (k.ev env) mdrop) := by
 simp only [xi]; cases mupdv cx h (x.ev env) (k.ev env) mdrop <;> rfl
theorem x_alloc (s : Nat) (zero : List AV) : xi C cx env h (.alloc s zero) = bx cx s (mkAt cx s (.box zero) h) := by
 simp only [xi]; cases mkAt cx s (.box zero) h <;> rfl
theorem x_box (s : Nat) (x : Opd) : xi C cx env h (.box s x) = if (x.ev env).val = true then bx cx s (mkAt cx s (.box (x.ev env).cells) h) else none := by
 simp only [xi]; split
 ·cases mkAt cx s (.box (x.ev env).cells) h <;> rfl
 ·rfl
def bxr : Option (AV × Heap) → Option (AV × Heap)
 | some (v,h) => some (.cptr v.cells,h)
 | none => none
@[go_sem] theorem bxr_some (v : AV) (h : Heap) : bxr (some (v,h)) = some (.cptr v.cells,h) := rfl
theorem x_boxR (x : Opd) : xi C cx env h (.boxR x) = if (x.ev env).val = true then bxr (frz cx.base false (x.ev env) h) else none := by
 simp only [xi]; split
 ·cases frz cx.base false (x.ev env) h <;> rfl
 ·rfl
theorem x_mkfn (f : Nat) (caps : List Opd) : xi C cx env h (.mkfn f caps) = some (.fn f (evs env caps),h) := rfl
def fldv (h : Heap) (off : Nat) (sh : Sh) : AV → Option (AV × Heap)
 | .agg cs => ov h (shaped sh (cs.drop off))
 | _ => none
@[go_sem] theorem fldv_agg (off : Nat) (sh : Sh) (cs : List AV) : fldv h off sh (.agg cs) = ov h (shaped sh (cs.drop off)) := rfl
theorem x_fld (x : Opd) (off : Nat) (sh : Sh) : xi C cx env h (.fld x off sh) = fldv h off sh (x.ev env) := by
 simp only [xi]
 cases x.ev env <;> simp [fldv,map_ov]
def ixa (x : AV) (size : Nat) (h : Heap) : Option Nat → Option (AV × Heap)
 | some j => ov h (padd x (j * size))
 | none => none
@[go_sem] theorem ixa_some (x : AV) (size j : Nat) : ixa x size h (some j) = ov h (padd x (j * size)) := rfl
theorem x_ixA (n size : Nat) (x i : Opd) : xi C cx env h (.ixA n size x i) = ixa (x.ev env) size h (idx (i.ev env) n) := by
 simp only [xi]; cases idx (i.ev env) n <;> simp [ixa,map_ov]
def ixv (size : Nat) (sh : Sh) (h : Heap) : AV → Option Nat → Option (AV × Heap)
 | .agg cs,some j => ov h (shaped sh (cs.drop (j * size)))
 | _,_ => none
@[go_sem] theorem ixv_some (size : Nat) (sh : Sh) (cs : List AV) (j : Nat) : ixv size sh h (.agg cs) (some j) = ov h (shaped sh (cs.drop (j * size))) := rfl
theorem x_ixV (n size : Nat) (sh : Sh) (x i : Opd) : xi C cx env h (.ixV n size sh x i) = ixv size sh h (x.ev env) (idx (i.ev env) n) := by
 simp only [xi]
 cases x.ev env <;> simp [ixv]
 cases idx (i.ev env) n <;> simp [ixv,map_ov]
def ixstr (l : List UInt8) (h : Heap) : Option Nat → Option (AV × Heap)
 | some j => match l[j]? with | some b => some (.int .u8 b.toNat,h) | none => none
 | none => none
def ixst (i : AV) (h : Heap) : AV → Option (AV × Heap)
 | .str l => ixstr l h (idx i l.length)
 | _ => none
@[go_sem] theorem ixst_str (i : AV) (l : List UInt8) : ixst i h (.str l) = ixstr l h (idx i l.length) := rfl
theorem x_ixStr (x i : Opd) : xi C cx env h (.ixStr x i) = ixst (i.ev env) h (x.ev env) := by
 simp only [xi]
 cases x.ev env <;> simp [ixst]
 rename_i l
 cases idx (i.ev env) l.length with
 | none => rfl
 | some j => simp only [Option.bind_some,ixstr]; cases l[j]? <;> rfl
def mkr (cx : Cx) (s z n : Nat) : Option (Nat × Heap) → Option (AV × Heap)
 | some (v,h) => some (.ref (cx.base + s) v z 0 n n,h)
 | none => none
@[go_sem] theorem mkr_some (s z n v : Nat) (h : Heap) : mkr cx s z n (some (v,h)) = some (.ref (cx.base + s) v z 0 n n,h) := rfl
def mks (cx : Cx) (s z : Nat) (zero : AV) (lim : Nat) (h : Heap) : AV → AV → Option (AV × Heap)
 | .int _ a,.int _ b => if 1000 ≤ s ∧ a = 0 ∧ b = 0 then some (.lsf z [],h) else if 0 ≤ a ∧ a ≤ b ∧ b ≤ lim then mkr cx (sOf s) z a.toNat (mkAt cx (sOf s) (.arr z (List.replicate a.toNat zero)) h) else none
 | _,_ => none
theorem mks_ok {cx : Cx} {s z : Nat} {zero : AV} {lim : Nat} {h : Heap} {k k' : IntKind} {a b : Int} (h0 : s < 1000) (h1 : 0 ≤ a) (h2 : a ≤ b) (h3 : b ≤ lim) : mks cx s z zero lim h (.int k a) (.int k' b) = mkr cx s z a.toNat (mkAt cx s (.arr z (List.replicate a.toNat zero)) h) := by
 have hs : sOf s = s := if_pos h0
 simp only [mks]
 rw [if_neg (by omega),if_pos ⟨h1,h2,h3⟩,hs]
theorem mks_zero {cx : Cx} {s z : Nat} {zero : AV} {lim : Nat} {h : Heap} {k k' : IntKind} (h0 : 1000 ≤ s) : mks cx s z zero lim h (.int k 0) (.int k' 0) = some (.lsf z [],h) := by
 simp [mks,h0]
theorem mks_big {cx : Cx} {s z : Nat} {zero : AV} {lim : Nat} {h : Heap} {k k' : IntKind} {a b : Int} (h0 : 1000 ≤ s) (h1 : 0 < a) (h2 : a ≤ b) (h3 : b ≤ lim) : mks cx s z zero lim h (.int k a) (.int k' b) = mkr cx (s - 1000) z a.toNat (mkAt cx (s - 1000) (.arr z (List.replicate a.toNat zero)) h) := by
 have hs : sOf s = s - 1000 := if_neg (by omega)
 simp only [mks]
 rw [if_neg (by omega),if_pos ⟨by omega,h2,h3⟩,hs]
theorem x_mk (s z : Nat) (zero : AV) (lim : Nat) (n c : Opd) : xi C cx env h (.mk s z zero lim n c) = mks cx s z zero lim h (n.ev env) (c.ev env) := by
 simp only [xi]
 cases n.ev env <;> simp [mks]
 cases c.ev env <;> simp [mks]
 rename_i k a k' b
 split
 ·rfl
 ·split
  ·cases mkAt cx (sOf s) (.arr z (List.replicate a.toNat zero)) h <;> rfl
  ·rfl
def apx (cx : Cx) (s z lim : Nat) (x : AV) (h : Heap) : Option (List AV) → Option (AV × Heap)
 | some xs => appw cx s z lim x xs h
 | none => none
@[go_sem] theorem apx_some (s z lim : Nat) (x : AV) (xs : List AV) : apx cx s z lim x h (some xs) = if s < 1000 then appv cx s z lim x xs h else (appv cx (s - 1000) z lim x xs h).bind fun r => frz cx.base false r.1 r.2 := rfl
theorem x_app (s z lim : Nat) (x y : Opd) : xi C cx env h (.app s z lim x y) = apx cx s z lim (x.ev env) h (appSrc h z (y.ev env)) := by
 simp only [xi]; cases appSrc h z (y.ev env) <;> rfl
def bck (cx : Cx) : List (Nat × Nat) → Option (AV × Heap) → Option (AV × Heap)
 | [],some (r,h) => some (weak r,h)
 | own,some (.tuple cs,h) => (takeOver cx own cs h).map fun (cs,h) => (weak (.tuple cs),h)
 | own,some (r,h) => (takeOver cx own [r] h).bind fun (cs,h) => (cs[0]?).map fun v => (weak v,h)
 | _,none => none
@[go_sem] theorem bck_nil (r : AV) (h : Heap) : bck cx [] (some (r,h)) = some (weak r,h) := rfl
@[go_sem] theorem bck_none (own : List (Nat × Nat)) : bck cx own none = none := by cases own <;> rfl
def cl (args : List AV) (own : List (Nat × Nat)) (h : Heap) : AV → Option (AV × Heap)
 | .fn g caps => bck cx own (C.fn (mvF g) (mvA g args caps) h cx.lo)
 | .yld id ver => if own = [] then yieldv C cx id ver args h else none
 | _ => none
@[go_sem] theorem cl_fn (args caps : List AV) (own : List (Nat × Nat)) (g : Nat) : cl C cx args own h (.fn g caps) = bck cx own (C.fn (mvF g) (mvA g args caps) h cx.lo) := rfl
@[go_sem] theorem mvF_eq (g : Nat) : mvF g = if g < 1000 then g else g - 1000 := rfl
@[go_sem] theorem mvA_eq (g : Nat) (xs cs : List AV) : mvA g xs cs = if g < 1000 then xs ++ cs else cs ++ xs := rfl
@[go_sem] theorem cl_yld (args : List AV) (id ver : Nat) : cl C cx args [] h (.yld id ver) = yieldv C cx id ver args h := rfl
theorem x_call (f : Opd) (args : List Opd) (own : List (Nat × Nat)) : xi C cx env h (.call f args own) = cl C cx (evs env args) own h (f.ev env) := by
 simp only [xi]
 cases f.ev env <;> simp [cl]
 rename_i g caps
 cases C.fn (mvF g) (mvA g (evs env args) caps) h cx.lo with
 | none => cases own <;> rfl
 | some r =>
  obtain ⟨r,h'⟩ := r
  cases own with
  | nil => rfl
  | cons o own =>
   simp only [Option.bind_some]
   cases r <;> rfl
end
attribute [go_sem] w_fz fzc_some w_skip w_exit w_ret w_reg w_seq w_cond w_blk w_pre w_nil w_op w_chk w_guard x_mov x_pick x_bin x_un x_conv x_eqv x_isnil x_isnif x_mget x_bstr x_bwr x_toStr x_mkif x_mkmap x_mkbld x_mput x_mdel x_nchk x_len x_lenA x_minmax x_ext x_padd x_slice x_build x_bslice x_ixS x_load x_store x_alloc x_box x_boxR x_mkfn x_fld x_ixA x_ixV x_ixStr x_mk x_app x_call
end Go.VI

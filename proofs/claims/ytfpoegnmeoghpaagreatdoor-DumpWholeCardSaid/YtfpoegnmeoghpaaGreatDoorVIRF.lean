/- Walking the evaluator by rewriting: loops over functions. -/
import Derived.Test.YtfpoegnmeoghpaaGreatDoorVIZ
set_option linter.unusedVariables false
set_option linter.unusedSimpArgs false
namespace Go.VI
@[go_sem] theorem frz_fn (b : Nat) (k : Bool) (f : Nat) (cs : List AV) (h : Heap) : frz b k (.fn f cs) h = (frzL b k cs h).map fun (cs,h) => (.fn f cs,h) := by simp only [frz]
@[go_sem] theorem frz_cptr (b : Nat) (k : Bool) (cs : List AV) (h : Heap) : frz b k (.cptr cs) h = some (.cptr cs,h) := by simp [frz]
@[go_sem] theorem gr_fn (b f : Nat) (cs : List AV) (h : Heap) : giveRes b (.fn f cs) h = (frz b true (.fn f cs) h).map (·.1) := rfl
@[go_sem] theorem val_cptr (cs : List AV) : (AV.cptr cs).val = true := rfl
@[go_sem] theorem val_bptr (i v o : Nat) : (AV.bptr i v o).val = true := rfl
@[go_sem] theorem cells_cptr (cs : List AV) : (AV.cptr cs).cells = [.cptr cs] := rfl
@[go_sem] theorem cells_nilFn : AV.nilFn.cells = [.nilFn] := rfl
@[go_sem] theorem contains_nil (a : Nat) : ([] : List Nat).contains a = false := rfl
@[go_sem] theorem contains_cons (a b : Nat) (l : List Nat) : (b :: l).contains a = (decide (a = b) || l.contains a) := by simp [List.contains_cons,Bool.beq_eq_decide_eq]
variable {L : Lib}
theorem w_rfn {lo ns s g it v : Nat} {caps : List AV} {env : Env} {h fr fr' : Heap} {f : Opd} {b : Blk} {d' : Rcd} {r : AV} (hf : f.ev env = .fn it caps) (hs : s < ns) (hb : fr[s]? = some (v,b))
  (hc : (run L).fn it (.yld (h.length + s) (v + 1) :: caps) (h ++ fr.set s (v + 1,.rcd ⟨g,lo,h.length,ns,env⟩ .ready)) lo = some (r,h ++ fr')) (hr : fr'[s]? = some (v + 1,.rcd d' .ready)) (hit : it < 1000 := by decide) :
  runC L ⟨lo,h.length,ns,none⟩ (.rfn s f g) (env,h ++ fr) = some (.norm,(env,h ++ fr'.set s (v + 1,.dead))) := by
 rw [runC_rfn]
 simp only [exec,hf,rndOk]
 have hm : mkAt ⟨lo,h.length,ns,none⟩ s (.rcd ⟨g,lo,h.length,ns,env⟩ .ready) (h ++ fr) = some (v + 1,h ++ fr.set s (v + 1,.rcd ⟨g,lo,h.length,ns,env⟩ .ready)) := by
  rw [mkAt_fr,hb,mkF_some,if_pos hs]
 have e1 : mvF it = it := by unfold mvF; rw [if_pos hit]
 have e2 : ∀ y : AV,mvA it [y] caps = y :: caps := fun y => by unfold mvA; rw [if_pos hit]; rfl
 rw [hm]
 simp only [Option.bind_some,e1,e2,hc,get_fr,hr,if_true,set_fr]
theorem w_rfn_done {lo ns s g it v : Nat} {caps : List AV} {env : Env} {h fr fr' : Heap} {f : Opd} {b : Blk} {d' : Rcd} {r : AV} {e : Ex} (hf : f.ev env = .fn it caps) (hs : s < ns) (hb : fr[s]? = some (v,b))
  (hc : (run L).fn it (.yld (h.length + s) (v + 1) :: caps) (h ++ fr.set s (v + 1,.rcd ⟨g,lo,h.length,ns,env⟩ .ready)) lo = some (r,h ++ fr')) (hr : fr'[s]? = some (v + 1,.rcd d' (.done e))) (hit : it < 1000 := by decide) :
  runC L ⟨lo,h.length,ns,none⟩ (.rfn s f g) (env,h ++ fr) = some (e,(env,h ++ fr'.set s (v + 1,.dead))) := by
 rw [runC_rfn]
 simp only [exec,hf,rndOk]
 have hm : mkAt ⟨lo,h.length,ns,none⟩ s (.rcd ⟨g,lo,h.length,ns,env⟩ .ready) (h ++ fr) = some (v + 1,h ++ fr.set s (v + 1,.rcd ⟨g,lo,h.length,ns,env⟩ .ready)) := by
  rw [mkAt_fr,hb,mkF_some,if_pos hs]
 have e1 : mvF it = it := by unfold mvF; rw [if_pos hit]
 have e2 : ∀ y : AV,mvA it [y] caps = y :: caps := fun y => by unfold mvA; rw [if_pos hit]; rfl
 rw [hm]
 simp only [Option.bind_some,e1,e2,hc,get_fr,hr,if_true,set_fr]
theorem yield_round {cx : Cx} {id ver lo base ns g : Nat} {env env1 env2 : Env} {args : List AV} {x : XRnd} {H H1 H2 : Heap} {d1 d2 : Rcd} {e : Ex} (hid : H[id]? = some (ver,.rcd ⟨g,lo,base,ns,env⟩ .ready)) (h1 : cx.lo ≤ lo) (h2 : lo ≤ id) (h3 : lo ≤ base) (hcl : AV.closedL args = true)
  (hx : L.rds g = some x) (hl : args.length = x.ps.length)
  (ha : runC L ⟨lo,base,ns,some (id,ver)⟩ x.asg ((x.ps.zip args).foldl (fun e p => e.set p.1 p.2) env,H) = some (.norm,(env1,H1))) (hid1 : H1[id]? = some (ver,.rcd d1 .ready))
  (hb : runC L ⟨lo,base,ns,some (id,ver)⟩ x.body (env1,H1.set id (ver,.rcd d1 .busy)) = some (e,(env2,H2))) (hid2 : H2[id]? = some (ver,.rcd d2 .busy)) :
  yieldv (run L) cx id ver args H = some (.bool (e == .norm),H2.set id (ver,.rcd d2 (if e = .norm then .ready else .done e))) := by
 simp only [yieldv,hid,h1,h2,h3,hcl,and_self,if_true]
 rw [rd_eq]
 simp only [hx,Option.bind_some,round,hl,if_true,ha,hid1,hb,hid2,Option.map_some]
theorem ps_bptr_r {lo ns sz s ver off : Nat} {h fr : Heap} {v : AV} {p : Nat × Nat} (hlo : lo ≤ h.length) (hc : v.closed = true) :
  pstore ⟨lo,h.length,ns,some p⟩ (h ++ fr) sz (.bptr (h.length + s) ver off) v = if v.cells.length = sz ∧ v.val = true then psB s lo ns ver off h fr v fr[s]? else none := by
 by_cases hv : v.cells.length = sz ∧ v.val = true
 ·simp only [pstore,hv,and_self,if_true,get_fr]
  cases fr[s]? with
  | none => rfl
  | some x =>
   obtain ⟨w,b⟩ := x
   cases b with
   | box cs =>
    have hle : lo ≤ h.length + s := by omega
    by_cases hw : w = ver
    ·simp [psB,hw,hle,hc,set_fr]
    ·simp [psB,hw]
   | _ => rfl
 ·simp [pstore,hv]
theorem ps_bptr_int {lo ns s ver off : Nat} {h fr : Heap} {k : IntKind} {n : Int} {p : Nat × Nat} (hlo : lo ≤ h.length) :
  pstore ⟨lo,h.length,ns,some p⟩ (h ++ fr) 1 (.bptr (h.length + s) ver off) (.int k n) = psB s lo ns ver off h fr (.int k n) fr[s]? := by
 rw [ps_bptr_r hlo rfl,if_pos ⟨rfl,rfl⟩]
end Go.VI

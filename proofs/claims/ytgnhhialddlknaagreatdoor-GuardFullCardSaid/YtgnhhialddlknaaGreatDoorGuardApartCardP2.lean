/- Own texts for this claim: SvCallOk, SvApp, SvPub, SvObj, SvConv, SvMake, SvIn, SvOp, SvLoc, SvRun. -/
import Derived.Test.YtgnhhialddlknaaGreatDoorGuardApartCardP1
import Derived.Laws.Append
import Derived.Laws.NewFold
import Derived.Lib.Builder
import Derived.Lib.UnsafeStr
import Derived.Laws.IdiomRangeMap
import Derived.Laws.Externs
import Derived.Laws.BytesString
import Derived.KernelRfl
import Derived.Laws.MakeOwn
import Derived.Laws.IdiomStrings
import Derived.Orders
set_option linter.all false
section
namespace Go.Sv
open M
theorem notIn_mem {x:Nat}:∀ {l:List Nat},notIn x l=true→x∉l
 | [],_=>by simp
 | y::r,h=>by
  simp only [notIn] at h
  cases hb:Nat.beq x y with
  | true=>simp [hb] at h
  | false =>
   rw [hb] at h
   simp only [List.mem_cons,not_or]
   exact ⟨(beq_ne _ _).1 hb,notIn_mem h⟩
theorem nodupB_nodup:∀ {l:List Nat},nodupB l=true→l.Nodup
 | [],_=>List.nodup_nil
 | x::r,h=>by
  obtain ⟨h1,h2⟩:=bAnd_eq h
  exact List.nodup_cons.2 ⟨notIn_mem h1,nodupB_nodup h2⟩
theorem look_fst:∀ {l:List (Nat×Blk)} {k:Nat} {b:Blk},look l k=some b→k∈fstL l
 | [],k,b,h=>by simp [look] at h
 | (i,c)::r,k,b,h=>by
  simp only [look] at h
  simp only [fstL,List.mem_cons]
  cases hb:Nat.beq i k with
  | true=>exact .inl ((beq_eq _ _).1 hb).symm
  | false=>rw [hb] at h; exact .inr (look_fst h)
theorem outL_look {m:List Nat} {nid:Nat}:∀ {ho:List (Nat×Blk)} {st:St},(fstL ho).Nodup→(∀ i j,i∈fstL ho→j∈fstL ho→sigOut m nid i=sigOut m nid j→i=j) →
  (∀ t,look (st.sets (outL m nid ho)).tm t=look st.tm t) ∧
  (∀ k b,look ho k=some b→look (st.sets (outL m nid ho)).hp (sigOut m nid k)=some (b.ren (sigOut m nid))) ∧
  (∀ id,(∀ k b,look ho k=some b→sigOut m nid k≠id)→look (st.sets (outL m nid ho)).hp id=look st.hp id)
 | [],st,_,_=>⟨fun t=>rfl,fun k b h=>by simp [look] at h,fun id h=>rfl⟩
 | (i,c)::r,st,hn,hinj=>by
  simp only [fstL,List.nodup_cons] at hn
  obtain ⟨h1,h2,h3⟩:=outL_look (m:=m) (nid:=nid) (ho:=r) (st:=st.set (.bk (sigOut m nid i)) (.bk (c.ren (sigOut m nid)))) hn.2
   (fun x y hx hy e=>hinj x y (by simp [fstL,hx]) (by simp [fstL,hy]) e)
  have hl:∀ j,look (st.set (.bk (sigOut m nid i)) (.bk (c.ren (sigOut m nid)))).hp j=if sigOut m nid i=j then some (c.ren (sigOut m nid)) else look st.hp j:=fun j=>look_put _ _ _ _
  refine ⟨fun t=>by simp only [outL,St.sets];rw [h1];rfl,fun k b hk => ?_,fun id hid => ?_⟩
  ·simp only [outL,St.sets]
   simp only [look] at hk
   cases hb:Nat.beq i k with
   | true =>
    rw [hb] at hk
    simp only [Option.some.injEq] at hk
    subst hk
    have e:=(beq_eq _ _).1 hb
    subst e
    rw [h3 _ (fun k b hk e => ?_),hl,if_pos rfl]
    have hm:=look_fst hk
    have:=hinj k i (by simp [fstL,hm]) (by simp [fstL]) e
    subst this
    exact hn.1 hm
   | false =>
    rw [hb] at hk
    exact h2 k b hk
  ·simp only [outL,St.sets]
   rw [h3 id (fun k b hk => ?_),hl,if_neg (hid i c (by simp [look,Nat.beq_refl]))]
   refine hid k b ?_
   simp only [look]
   have hne:i≠k:=by rintro rfl;exact hn.1 (look_fst hk)
   rw [(beq_ne _ _).2 hne]
   exact hk
theorem goneL_look:∀ {m:List Nat} {st:St},(∀ t,look (st.sets (goneL m)).tm t=look st.tm t)∧∀ id,look (st.sets (goneL m)).hp id=if id∈m then none else look st.hp id
 | [],st=>⟨fun t=>rfl,fun id=>by simp [goneL,St.sets]⟩
 | x::r,st=>by
  obtain ⟨h1,h2⟩:=goneL_look (m:=r) (st:=st.set (.bk x) .gone)
  have hl:∀ j,look (st.set (.bk x) .gone).hp j=if x=j then none else look st.hp j:=fun j=>look_del _ _ _
  refine ⟨fun t=>by simp only [goneL,St.sets];rw [h1];rfl,fun id => ?_⟩
  simp only [goneL,St.sets]
  rw [h2,hl]
  simp only [List.mem_cons]
  by_cases e1:id∈r
  ·simp [e1]
  ·by_cases e2:x=id
   ·simp [e1,e2]
   ·simp [e1,e2,Ne.symm e2]
theorem sets_append (st:St) (l k:List (Key×KV)):st.sets (l++k)=(st.sets l).sets k:=by
 induction l generalizing st with
 | nil=>rfl
 | cons p r ih=>simp only [List.cons_append,St.sets]; exact ih _
theorem blks_ev {st:St}:∀ {m:List Nat} {bs:List Blk},(blksM m).Ev st.get bs→bs.length=m.length∧∀ (i:Nat) (b:Blk),bs[i]?=some b→∃ id,m[i]?=some id∧look st.hp id=some b
 | [],bs,h=>by simp only [blksM,ev_ret] at h; subst h; simp
 | x::r,bs,h=>by
  simp only [blksM,ev_bind,ev_rd] at h
  obtain ⟨kv,hk,h⟩:=h
  obtain ⟨b,rfl,hb⟩:=get_bk hk
  simp only [ev_bind,ev_ret] at h
  obtain ⟨l,hl,rfl⟩:=h
  obtain ⟨h1,h2⟩:=blks_ev hl
  refine ⟨by simp [h1],fun i c hi => ?_⟩
  cases i with
  | zero=>simp at hi; subst hi; exact ⟨x,rfl,hb⟩
  | succ i=>simp at hi ⊢; exact h2 i c hi
theorem houtOk_lt {kn:Nat}:∀ {ho:List (Nat×Blk)},houtOk kn ho=true→∀ k∈fstL ho,k<kn+16
 | [],_,k,hk=>by simp [fstL] at hk
 | (i,c)::r,h,k,hk=>by
  obtain ⟨h1,h2⟩:=bAnd_eq h
  simp only [fstL,List.mem_cons] at hk
  rcases hk with rfl | hk
  ·exact Nat.le_of_ble_eq_true h1
  ·exact houtOk_lt h2 k hk
theorem isGo_run {P:Program} {f:FuncId} (h:isGo P f=true) (args:Array Value) (w:World):(callFunc f args).run P w = .ok (.enter f args) w:=by
 unfold isGo at h
 cases hf:P.funcs[f]? with
 | none=>simp [hf] at h
 | some fn =>
  simp only [hf] at h
  obtain ⟨h1,h2⟩:=bAnd_eq h
  have hb:¬ fn.body=none:=by cases hb:fn.body<;>simp_all
  have hn:¬ fn.name = "runtime.NumGoroutine" := by simpa [bne] using h2
  simp [callFunc,program,Sem.run,hf,hn,hb]
section
variable {Γ:Ctx} {S W:Nat→Prop} {D:Dat} {ρ:Rho} {st:St} {a:Act} {w:World} {E:Env} {i d nid:Nat} {g:OG} {eff:Eff}
theorem callee_den (hG:E.G=Γ.G) (h:Sat Γ S W D ρ st a w) (hg:GdOk W g a) {x:Operand} {q:FuncId×List V1×List V1} (hq:(calleeM E g x).Ev st.get q) :
  (∀ (j:Nat) (v:V1),q.2.1[j]?=some v∨q.2.2[j]?=some v→v.inS S)∧(Exec g a→∃ fs vs,a.eval x = .func (.func q.1) fs vs∧DenL D ρ q.2.1 fs∧DenL D ρ q.2.2 vs):=by
 have gen:∀ (x:Operand),(bind (opdM E g x) fun v=>(match v with
   | .c (.clo f k sh c)=>(match Nat.blt f 1000000000 with
    | true=>ret (f,[],upL (fun i=>match sh i with | none=>V1.c (c i 0) | some m=>V1.agg (upL (c i) 0 m)) 0 k)
    | false=>ret (f-1000000000,upL (fun i=>match sh i with | none=>V1.c (c i 0) | some m=>V1.agg (upL (c i) 0 m)) 0 k,[]))
   | _=>fail:M (FuncId×List V1×List V1))).Ev st.get q→(∀ (j:Nat) (v:V1),q.2.1[j]?=some v∨q.2.2[j]?=some v→v.inS S)∧(Exec g a→∃ fs vs,a.eval x = .func (.func q.1) fs vs∧DenL D ρ q.2.1 fs∧DenL D ρ q.2.2 vs):=by
  intro x hq
  simp only [ev_bind] at hq
  obtain ⟨v,hv,hq⟩:=hq
  have hS:=opd_inS hG h hv
  have hd:=fun he=>opd_den hG h hg he hv
  split at hq
  ·rename_i f k sh c
   have hS:∀ i,i<k→match sh i with | none=>(c i 0).inS S | some m=>∀ j,j<m→(c i j).inS S:=hS
   have gS:∀ (j:Nat) (v:V1),(upL (fun i=>match sh i with | none=>V1.c (c i 0) | some m=>V1.agg (upL (c i) 0 m)) 0 k)[j]?=some v→v.inS S:=by
    intro j v hj
    rw [upL_get] at hj
    split at hj
    ·rename_i hlt
     simp only [Option.some.injEq,Nat.zero_add] at hj
     have:=hS j hlt
     subst hj
     cases hsh:sh j with
     | none=>rw [hsh] at this; exact this
     | some m =>
      rw [hsh] at this
      intro l x hl
      rw [upL_get] at hl
      split at hl
      ·rename_i hlt2;simp only [Option.some.injEq,Nat.zero_add] at hl;subst hl;exact this l hlt2
      ·cases hl
    ·cases hj
   have gD:∀ vs:Array Value,vs.size=k→(∀ i,i<k→∃ u,vs[i]?=some u∧match sh i with | none=>Den D ρ (c i 0) u | some m=>∃ us:Array Value,u = .agg us∧us.size=m∧∀ j,j<m→∃ x,us[j]?=some x∧Den D ρ (c i j) x)→DenL D ρ (upL (fun i=>match sh i with | none=>V1.c (c i 0) | some m=>V1.agg (upL (c i) 0 m)) 0 k) vs:=by
    intro vs hs h3
    refine ⟨by simp [upL_len,hs],fun j v hj => ?_⟩
    rw [upL_get] at hj
    split at hj
    ·rename_i hlt
     simp only [Option.some.injEq,Nat.zero_add] at hj
     obtain ⟨u,hu,hdd⟩:=h3 j hlt
     refine ⟨u,hu,?_⟩
     subst hj
     cases hsh:sh j with
     | none=>rw [hsh] at hdd; exact hdd
     | some m =>
      rw [hsh] at hdd
      obtain ⟨us,e2,hs2,h4⟩:=hdd
      refine ⟨us,e2,by simp [upL_len,hs2],fun l x hl => ?_⟩
      rw [upL_get] at hl
      split at hl
      ·rename_i hlt2;simp only [Option.some.injEq,Nat.zero_add] at hl;subst hl;exact h4 l hlt2
      ·cases hl
    ·cases hj
   split at hq
   ·rename_i hb
    simp only [ev_ret] at hq
    subst hq
    refine ⟨fun j v hj => ?_,fun he => ?_⟩
    ·rcases hj with hj | hj
     ·simp at hj
     ·exact gS j v hj
    ·obtain ⟨vs,e,hs,h3⟩:=hd he
     exact ⟨#[],vs,by rw [e,cloV_of hb],⟨rfl,fun j x hj=>by simp at hj⟩,gD vs hs h3⟩
   ·rename_i hb
    simp only [ev_ret] at hq
    subst hq
    refine ⟨fun j v hj => ?_,fun he => ?_⟩
    ·rcases hj with hj | hj
     ·exact gS j v hj
     ·simp at hj
    ·obtain ⟨vs,e,hs,h3⟩:=hd he
     exact ⟨vs,#[],by rw [e,cloV_bound hb],gD vs hs h3,⟨rfl,fun j x hj=>by simp at hj⟩⟩
  ·simp [ev_fail] at hq
 cases x with
 | func f =>
  simp only [calleeM,ev_ret] at hq
  subst hq
  exact ⟨fun j v hj=>by simp at hj,fun he=>⟨#[],#[],rfl,⟨rfl,fun j v hj=>by simp at hj⟩,⟨rfl,fun j v hj=>by simp at hj⟩⟩⟩
 | tmp t=>exact gen _ hq
 | const v=>exact gen _ hq
 | global n=>exact gen _ hq
theorem method_run {P:Program} {t:TypeId} {name:String} {f:FuncId} (h:methOf P t name=some f) (u:Value) (n:Nat) (w:World):(method (n+1) t u name).run P w = .ok (f,u) w:=by
 unfold methOf at h
 split at h
 ·rename_i inf hi
  split at h
  ·rename_i m hm
   split at h
   ·rename_i f' hp hf
    split at h
    ·cases h
    ·rename_i ty hty hun
     simp only [Option.some.injEq] at h
     subst h
     unfold method
     rw [Sem.run_bind,typeInfo_ok hi,Result.andThen_ok,hm]
     simp only [hp,follow,Sem.run_bind,Sem.run_pure,Result.andThen_ok,hf]
     unfold receiverAt
     rw [Sem.run_bind,under_run hun,Result.andThen_ok]
     cases ty<;>first | exact (hty _ rfl).elim | simp [Place.get]
    ·cases h
   ·cases h
  ·cases h
 ·cases h
theorem cal_den (hP:E.P=Γ.P) (hG:E.G=Γ.G) (h:Sat Γ S W D ρ st a w) (hg:GdOk W g a) {co:Callee} {q:FuncId×List V1×List V1} (hq:(calM E g co).Ev st.get q) :
  (∀ (j:Nat) (v:V1),q.2.1[j]?=some v∨q.2.2[j]?=some v→v.inS S)∧(Exec g a→∃ fs vs,DenL D ρ q.2.1 fs∧DenL D ρ q.2.2 vs ∧
   ∀ (o:Oper) (cc:Call),cc.callee=co→(do let d ← resolve a.eval cc o.type;invoke d.target d.args).run Γ.P w=(callFunc q.1 (fs++(cc.args.map a.eval++vs))).run Γ.P w):=by
 cases co with
 | builtin b=>simp [calM,ev_fail] at hq
 | value x =>
  obtain ⟨h1,h2⟩:=callee_den hG h hg hq
  refine ⟨h1,fun he => ?_⟩
  obtain ⟨fs,vs,hc,hf,hv⟩:=h2 he
  refine ⟨fs,vs,hf,hv,fun o cc hcc => ?_⟩
  simp only [resolve,hcc,Deferred.ofValue,hc,Sem.run_bind,Sem.run_pure,Result.andThen_ok,invoke,Array.append_assoc]
 | invoke x name =>
  simp only [calM,ev_bind] at hq
  obtain ⟨v,hv,hq⟩:=hq
  have hS:=opd_inS hG h hv
  have hd:=fun he=>opd_den hG h hg he hv
  split at hq
  ·rename_i t sh c
   simp only [ev_bind,ev_opt,ev_ret] at hq
   obtain ⟨f,hf,rfl⟩:=hq
   rw [hP] at hf
   refine ⟨fun j v hj => ?_,fun he => ?_⟩
   ·rcases hj with hj | hj
    ·cases j with
     | succ j=>simp at hj
     | zero =>
      simp only [List.getElem?_cons_zero,Option.some.injEq] at hj
      subst hj
      cases sh with
      | none=>exact hS
      | some m =>
       intro l x hl
       rw [upL_get] at hl
       split at hl
       ·rename_i hlt2;simp only [Option.some.injEq,Nat.zero_add] at hl;subst hl;exact hS l hlt2
       ·cases hl
    ·simp at hj
   ·have hd:Den D ρ (.ifc t sh c) (a.eval x):=hd he
    simp only [Den] at hd
    obtain ⟨u,e,hd⟩:=hd
    refine ⟨#[u],#[],⟨rfl,fun j v hj => ?_⟩,⟨rfl,fun j v hj=>by simp at hj⟩,fun o cc hcc => ?_⟩
    ·cases j with
     | succ j=>simp at hj
     | zero =>
      simp only [List.getElem?_cons_zero,Option.some.injEq] at hj
      subst hj
      refine ⟨u,rfl,?_⟩
      split
      ·exact hd
      ·obtain ⟨us,e2,hs2,h4⟩:=hd
       refine ⟨us,e2,by simp [upL_len,hs2],fun l x hl => ?_⟩
       rw [upL_get] at hl
       split at hl
       ·rename_i hlt2;simp only [Option.some.injEq,Nat.zero_add] at hl;subst hl;exact h4 l hlt2
       ·cases hl
    ·have hr:(Γ.P.types.size+Made.depth)=(Γ.P.types.size+99)+1:=rfl
     have h0:(#[Value.iface t u]++Array.map a.eval cc.args)[0]?=some (.iface t u):=by rw [Array.getElem?_append_left (by simp)];rfl
     have h1:(#[Value.iface t u]++Array.map a.eval cc.args).extract 1 (#[Value.iface t u]++Array.map a.eval cc.args).size=Array.map a.eval cc.args:=by
      apply Array.ext'
      simp
      exact List.take_of_length_le (by simp)
     have hpr:Sem.run Γ.P program w = .ok Γ.P w:=rfl
     simp only [resolve,hcc,Sem.run_bind,Sem.run_pure,Result.andThen_ok,invoke,e,h0,h1,callMethod,hpr,hr,method_run hf,Array.append_empty]
  ·simp [ev_fail] at hq
def dPlus (W:Nat→Prop) (d:Option Nat):Nat→Prop:=fun t=>W t∨d=some t
theorem sig_in {m:List Nat} {i id:Nat} (h:m[i]?=some id):sigIn m i=id∧∀ nid,sigOut m nid i=id:=by
 simp [sigIn,sigOut,nth_eq,h]
theorem sig_out {m:List Nat} {nid i:Nat} (h:m.length≤i):sigOut m nid i=nid+(i-m.length):=by
 simp [sigOut,nth_eq,h,len_eq]
theorem Sat.after (h:Sat Γ S W D ρ st a w) (hf:Fresh S nid) {m:List Nat} (hm:m.Nodup) (hmb:∀ (i id:Nat),m[i]?=some id→∃ b,look st.hp id=some b)
  {ho:List (Nat×Blk)} (hh:∀ k∈fstL ho,k<m.length+16) (hn:(fstL ho).Nodup)
  {D':Dat} {ρ':Rho} {w':World} (af:After Γ.G m.length D (fun i=>ρ (sigIn m i)) w D' ρ' w' ho) :
  ∃ ρ'',(∀ i,S i→ρ i=ρ'' i)∧(∀ i,i<m.length+16→ρ'' (sigOut m nid i)=ρ' i)∧Sat Γ (sPlus S nid) W D' ρ'' (st.sets (goneL m++outL m nid ho)) a w':=by
 let ρ'':Rho:=fun id=>if nid≤id∧id<nid+16 then ρ' (id-nid+m.length) else ρ id
 have hold:∀ i,S i→ρ i=ρ'' i:=by
  intro i hi
  show ρ i=if _ then _ else _
  rw [if_neg]
  exact fun hh=>hf i hh.1 hh.2 hi
 have hmS:∀ (i id:Nat),m[i]?=some id→S id:=fun i id hi=>let ⟨b,hb⟩:=hmb i id hi;(h.idH id b hb).1
 have hout:∀ i,i<m.length+16→ρ'' (sigOut m nid i)=ρ' i:=by
  intro i hi
  rcases Nat.lt_or_ge i m.length with hlt | hge
  ·have e:m[i]?=some m[i]:=by simp [hlt]
   rw [(sig_in e).2,← hold _ (hmS i _ e)]
   rw [af.kin i hlt]
   show ρ m[i]=ρ (sigIn m i)
   rw [(sig_in e).1]
  ·rw [sig_out hge]
   show (if _ then _ else _)=_
   rw [if_pos ⟨by omega,by omega⟩]
   congr 1
   omega
 have hinj:∀ i j,i<m.length+16→j<m.length+16→sigOut m nid i=sigOut m nid j→i=j:=by
  intro i j hi hj e
  rcases Nat.lt_or_ge i m.length with h1 | h1<;>rcases Nat.lt_or_ge j m.length with h2 | h2
  ·have e1:m[i]?=some m[i]:=by simp [h1]
   have e2:m[j]?=some m[j]:=by simp [h2]
   rw [(sig_in e1).2,(sig_in e2).2] at e
   exact (List.getElem_inj hm).1 e
  ·have e1:m[i]?=some m[i]:=by simp [h1]
   rw [(sig_in e1).2,sig_out h2] at e
   exact (hf _ oM oM (hmS i _ e1)).elim
  ·have e2:m[j]?=some m[j]:=by simp [h2]
   rw [(sig_in e2).2,sig_out h1] at e
   exact (hf _ oM oM (hmS j _ e2)).elim
  ·rw [sig_out h1,sig_out h2] at e
   omega
 obtain ⟨g1,g2⟩:=goneL_look (m:=m) (st:=st)
 obtain ⟨o1,o2,o3⟩:=outL_look (m:=m) (nid:=nid) (ho:=ho) (st:=st.sets (goneL m)) hn (fun i j hi hj e=>hinj i j (hh i hi) (hh j hj) e)
 refine ⟨ρ'',hold,hout,?_⟩
 rw [sets_append]
 have cases_:∀ id c,look ((st.sets (goneL m)).sets (outL m nid ho)).hp id=some c →
   (∃ k b,look ho k=some b∧sigOut m nid k=id∧c=b.ren (sigOut m nid))∨(look st.hp id=some c∧∀ i,i<m.length→m[i]?≠some id):=by
  intro id c hc
  by_cases hk:∃ k b,look ho k=some b∧sigOut m nid k=id
  ·obtain ⟨k,b,h1,h2⟩:=hk
   subst h2
   rw [o2 k b h1] at hc
   simp only [Option.some.injEq] at hc
   exact .inl ⟨k,b,h1,rfl,hc.symm⟩
  ·rw [o3 id (fun k b h1 h2=>hk ⟨k,b,h1,h2⟩),g2] at hc
   by_cases hmem:id∈m
   ·rw [if_pos hmem] at hc;cases hc
   ·rw [if_neg hmem] at hc
    exact .inr ⟨hc,fun i _ e=>hmem (List.mem_of_getElem? e)⟩
 have hk16:∀ k b,look ho k=some b→k<m.length+16:=fun k b hb=>hh k (look_fst hb)
 have hSp:∀ i,S i→sPlus S nid i:=fun i hi => .inl hi
 have houtS:∀ k b,look ho k=some b→sPlus S nid (sigOut m nid k):=by
  intro k b hb
  have hk:=hk16 k b hb
  rcases Nat.lt_or_ge k m.length with h1 | h1
  ·have e1:m[k]?=some m[k]:=by simp [h1]
   rw [(sig_in e1).2];exact .inl (hmS k _ e1)
  ·rw [sig_out h1];exact .inr ⟨by omega,by omega⟩
 have hmblk:∀ i,i<m.length→∃ id b,m[i]?=some id∧look st.hp id=some b∧ρ (sigIn m i)=ρ id:=by
  intro i hi
  have e1:m[i]?=some m[i]:=by simp [hi]
  obtain ⟨b,hb⟩:=hmb i _ e1
  exact ⟨m[i],b,e1,hb,by rw [(sig_in e1).1]⟩
 have hneq:∀ id c,look st.hp id=some c→Live ρ id c→(∀ i,i<m.length→m[i]?≠some id)→∀ i,i<m.length→(ρ (sigIn m i)).2≠0→(ρ (sigIn m i)).1≠(ρ id).1:=by
  intro id c hc lc hno i hi li e
  obtain ⟨id',b',e1,hb',e2⟩:=hmblk i hi
  rw [e2] at e li
  have:=h.inj id' id b' c hb' hc li lc e
  subst this
  exact hno i hi e1
 refine { defers:=h.defers,size:=h.size,tm := ?_,hp := ?_,inj := ?_,agree:=af.agree,sep := ?_,le:=h.le.trans af.le,glob := ?_,gl:=h.gl,own := ?_,kin := ?_,newD := ?_,frame := ?_,os:=af.os.trans h.os,tape:=af.tape.trans h.tape,output:=af.output.trans h.output,grow:=Nat.le_trans h.grow af.grow,drawn:=fun n=>Nat.le_trans (h.drawn n) (af.drawn n),idT := ?_,idH := ?_,kinS:=fun i hi=>hSp _ (h.kinS i hi) }
 ·intro t v hv
  rw [o1,g1] at hv
  obtain ⟨u,hu,hd⟩:=h.tm t v hv
  exact ⟨u,hu,(hd.mono af.le).agr hold (h.idT t v hv)⟩
 ·intro id c hc
  rcases cases_ id c hc with ⟨k,b,h1,rfl,rfl⟩ | ⟨h1,h2⟩
  ·rw [BlkSat.ren]
   refine (af.hp k b h1).agr (S:=fun i=>∃ c,look ho i=some c) (fun i hi => ?_) ⟨b,h1⟩ (af.ids k b h1)
   obtain ⟨c,hc⟩:=hi
   exact (hout i (hk16 i c hc)).symm
  ·have hS:=h.idH id c h1
   have hbs:=((h.hp id c h1).mono af.le).agr hold hS.1 hS.2
   by_cases lc:Live ρ id c
   ·refine hbs.world ?_
    rw [← hold id hS.1]
    exact af.frame _ ((h.hp id c h1).lt lc) (fun i hi li=>hneq id c h1 lc h2 i hi li)
   ·exact hbs.dead (fun hh=>lc ((Live.agr hold hS.1).2 hh))
 ·intro i j bi bj hi hj li lj e
  rcases cases_ i bi hi with ⟨k,b,h1,rfl,rfl⟩ | ⟨h1,h2⟩<;>rcases cases_ j bj hj with ⟨k',b',h1',rfl,rfl⟩ | ⟨h1',h2'⟩
  ·simp only [Live] at li lj
   rw [hout k (hk16 k b h1)] at li e
   rw [hout k' (hk16 k' b' h1')] at lj e
   rw [af.inj k k' b b' h1 h1' li lj e]
  ·simp only [Live] at li lj
   rw [hout k (hk16 k b h1)] at li e
   rw [← hold j (h.idH j bj h1').1] at lj e
   rcases af.own k b h1 li with hh | ⟨l,hl,hl2,hh⟩
   ·have:=(h.hp j bj h1').lt lj;omega
   ·exact (hneq j bj h1' lj h2' l hl hl2 (hh.trans e)).elim
  ·simp only [Live] at li lj
   rw [hout k' (hk16 k' b' h1')] at lj e
   rw [← hold i (h.idH i bi h1).1] at li e
   rcases af.own k' b' h1' lj with hh | ⟨l,hl,hl2,hh⟩
   ·have:=(h.hp i bi h1).lt li;omega
   ·exact (hneq i bi h1 li h2 l hl hl2 (hh.trans e.symm)).elim
  ·simp only [Live] at li lj
   rw [← hold i (h.idH i bi h1).1] at li e
   rw [← hold j (h.idH j bj h1').1] at lj e
   exact h.inj i j bi bj h1 h1' li lj e
 ·intro id c hc lc o
  rcases cases_ id c hc with ⟨k,b,h1,rfl,rfl⟩ | ⟨h1,h2⟩
  ·simp only [Live] at lc
   rw [hout k (hk16 k b h1)] at lc ⊢
   exact af.sep k b h1 lc o
  ·simp only [Live] at lc
   rw [← hold id (h.idH id c h1).1] at lc ⊢
   cases hD:D' (ρ id).1 o with
   | none=>rfl
   | some v =>
    rcases af.newD _ _ _ hD with hh | hh | ⟨i,hi,hi2,hh⟩
    ·rw [h.sep id c h1 lc o] at hh;cases hh
    ·have:=(h.hp id c h1).lt lc;omega
    ·exact (hneq id c h1 lc h2 i hi hi2 hh).elim
 ·intro g cs hg j x hx
  obtain ⟨u,hu,hd⟩:=h.glob g cs hg j x hx
  exact ⟨u,af.le _ _ _ hu,Den.mono af.le _ _ _ hd⟩
 ·intro id c hc lc
  simp only [Live] at lc
  rcases cases_ id c hc with ⟨k,b,h1,rfl,rfl⟩ | ⟨h1,h2⟩
  ·rw [hout k (hk16 k b h1)] at lc ⊢
   rcases af.own k b h1 lc with hh | ⟨l,hl,hl2,hh⟩
   ·exact .inl (Nat.le_trans h.grow hh)
   ·obtain ⟨id',b',e1,hb',e2⟩:=hmblk l hl
    rw [e2] at hl2
    rw [← hh,e2]
    exact h.own id' b' hb' hl2
  ·rw [← hold id (h.idH id c h1).1] at lc ⊢
   exact h.own id c h1 lc
 ·intro i hi
  rw [← hold i (h.kinS i hi)]
  exact h.kin i hi
 ·intro b o v hv
  rcases af.newD _ _ _ hv with hh | hh | ⟨l,hl,hl2,hh⟩
  ·exact h.newD _ _ _ hh
  ·exact .inr (.inl (Nat.le_trans h.grow hh))
  ·obtain ⟨id',b',e1,hb',e2⟩:=hmblk l hl
   rw [e2] at hl2
   rw [← hh,e2]
   rcases h.own id' b' hb' hl2 with h1 | h1
   ·exact .inr (.inl h1)
   ·exact .inr (.inr h1)
 ·intro b hb hk
  rw [af.frame b (Nat.lt_of_lt_of_le hb h.grow) (fun l hl hl2 e => ?_)]
  ·exact h.frame b hb hk
  ·obtain ⟨id',b',e1,hb',e2⟩:=hmblk l hl
   rw [e2] at e hl2
   rcases h.own id' b' hb' hl2 with h1 | ⟨i,hi,hi2,h1⟩
   ·omega
   ·exact hk i hi hi2 (h1.trans e)
 ·intro t v hv
  rw [o1,g1] at hv
  exact TV.inS_mono hSp (h.idT t v hv)
 ·intro id c hc
  rcases cases_ id c hc with ⟨k,b,h1,rfl,rfl⟩ | ⟨h1,h2⟩
  ·refine ⟨houtS k b h1,Blk.inS_ren.2 (Blk.inS_mono (fun i hi => ?_) (af.ids k b h1))⟩
   obtain ⟨c,hc⟩:=hi
   exact houtS i c hc
  ·exact ⟨hSp _ (h.idH id c h1).1,Blk.inS_mono hSp (h.idH id c h1).2⟩
theorem DenL.append {D:Dat} {ρ:Rho} {l k:List V1} {xs ys:Array Value} (h:DenL D ρ l xs) (h':DenL D ρ k ys):DenL D ρ (l++k) (xs++ys):=by
 refine ⟨by simp [h.1,h'.1],fun j x hj => ?_⟩
 rw [List.getElem?_append] at hj
 rw [Array.getElem?_append,h.1]
 split at hj
 ·rename_i hlt;rw [if_pos hlt];exact h.2 j x hj
 ·rename_i hlt;rw [if_neg hlt];exact h'.2 _ x hj
theorem DenL.map_ren {D:Dat} {σ:Nat→Nat} {ρ:Rho} {l:List V1} {xs:Array Value}:DenL D ρ (l.map (V1.ren σ)) xs↔DenL D (fun i=>ρ (σ i)) l xs:=by
 constructor
 ·rintro ⟨h1,h2⟩
  refine ⟨by simpa using h1,fun j x hj => ?_⟩
  obtain ⟨u,hu,hd⟩:=h2 j (x.ren σ) (by simp [hj])
  exact ⟨u,hu,DenV.ren.1 hd⟩
 ·rintro ⟨h1,h2⟩
  refine ⟨by simpa using h1,fun j x hj => ?_⟩
  simp only [List.getElem?_map,Option.map_eq_some_iff] at hj
  obtain ⟨y,hy,rfl⟩:=hj
  obtain ⟨u,hu,hd⟩:=h2 j y hy
  exact ⟨u,hu,DenV.ren.2 hd⟩
theorem resTV_den {D:Dat} {ρ:Rho} {W:Nat→Prop} {tm:Array Value} {rs:List V1} {v:Value} (h:ResDen D ρ rs v):DenT D ρ W tm (resTV rs) v:=by
 unfold ResDen at h
 unfold resTV
 split at h
 ·exact h
 ·exact h
theorem ResDen.ren {D:Dat} {σ:Nat→Nat} {ρ:Rho} {rs:List V1} {v:Value} (h:ResDen D (fun i=>ρ (σ i)) rs v):ResDen D ρ (rs.map (V1.ren σ)) v:=by
 unfold ResDen at h
 split at h
 ·exact DenV.ren.2 h
 ·rename_i hne
  obtain ⟨vs,e,hl⟩:=h
  have:ResDen D ρ (rs.map (V1.ren σ)) v=∃ vs:Array Value,v = .tuple vs∧DenL D ρ (rs.map (V1.ren σ)) vs:=by
   match rs,hne with
   | [],_=>rfl
   | [x],hne=>exact (hne x rfl).elim
   | _::_::_,_=>rfl
  rw [this]
  exact ⟨vs,e,DenL.map_ren.2 hl⟩
theorem resTV_inS {S:Nat→Prop} {rs:List V1} (h:∀ (j:Nat) (x:V1),rs[j]?=some x→x.inS S):(resTV rs).inS S:=by
 unfold resTV
 split
 ·rename_i x;exact h 0 x rfl
 ·exact h
theorem upon_enter {Γ:Ctx} {o:Oper} {a:Act} {K:Act→World→Prop} {Q:Exit→Act→World→Prop} {w:World} {f:FuncId} {vs:Array Value} {c:Call}
  (ho:o.op = .call c) (hrun:(do let d ← resolve a.eval c o.type;invoke d.target d.args).run Γ.P w = .ok (.enter f vs) w)
  (hc:Calls Γ.P f vs w fun e w'=>∃ v,e = .returned v∧K (a.put o.dst v) w'):o.wp Γ.P a w K Q:=by
 unfold Oper.wp
 have:(execOp a.eval o).run Γ.P w = .ok (.enter f vs) w:=by
  unfold execOp;rw [ho];exact hrun
 rw [this,Oper.upon_enter]
 refine hc.mono ?_
 rintro e w' ⟨v,rfl,hk⟩
 exact hk
theorem call_ok (hP:E.P=Γ.P) (hG:E.G=Γ.G) {cs:List (Nat×CallE E.P E.G)} (h:Sat Γ S W D ρ st a w) (hg:GdOk W g a) (hfr:Fresh S nid) {d:Option Nat} (hd:∀ x,d=some x→x<Γ.N∧¬ W x) {fo:Callee} {args:Array Operand} {eqs:Eqs}
  (hf:(callM E cs i nid g d fo args.toList).Ev st.get (eff,eqs)) (he1:eqs.el=eqs.er) (he2:eqs.bl=eqs.br) :
  (Exec g a→∀ (o:Oper) (c:Call) (K:Act→World→Prop) (Q:Exit→Act→World→Prop),o.op = .call c→c.callee=fo→c.args=args→o.dst=d →
    (∀ a' w',SatE Γ (sPlus S nid) (dPlus W d) (st.sets eff.wr) a' w'→K a' w')→o.wp Γ.P a w K Q) ∧
  (¬ Exec g a→SatE Γ (sPlus S nid) (dPlus W d) (st.sets eff.wr) (a.put d undef) w):=by
 simp only [callM,ev_bind,ev_opt,ev_guard] at hf
 obtain ⟨c,hc,q,hq,_,hgo,vs,hvs,hf⟩:=hf
 obtain ⟨hqf,hgo⟩:=bAnd_eq hgo
 have hqf:=(beq_eq _ _).1 hqf
 have hgo:isGo Γ.P c.f=true:=by
  have:∀ f,isGo E.P f=true→isGo Γ.P f=true:=by rw [hP];exact fun _ h=>h
  exact this _ hgo
 have prf:Fn Γ.P Γ.G c.f c.hin c.args (fun r h=>r=c.rs∧h=c.hout):=by
  have:∀ f hin args R,Fn E.P E.G f hin args R→Fn Γ.P Γ.G f hin args R:=by rw [hP,hG];exact fun _ _ _ _ h=>h
  exact this _ _ _ _ c.prf
 obtain ⟨qS,qD⟩:=cal_den hP hG h hg hq
 obtain ⟨vS,vlen,vD⟩:=opds_den hG h hg hvs
 have hWd:∀ t,W t→dPlus W d t:=fun t ht => .inl ht
 have run:Exec g a→∃ ws,DenL D ρ (q.2.1++(vs++q.2.2)) ws∧∀ (o:Oper) (cc:Call),cc.callee=fo→cc.args=args →
   (do let d ← resolve a.eval cc o.type;invoke d.target d.args).run Γ.P w = .ok (.enter c.f ws) w:=by
  intro he
  obtain ⟨fs,cap,hfd,hcd,hcap⟩:=qD he
  refine ⟨fs++(args.map a.eval++cap),DenL.append hfd (DenL.append ⟨by simp [vlen],fun j x hj => ?_⟩ hcd),fun o cc h1 h2 => ?_⟩
  ·obtain ⟨y,hy,hdy⟩:=vD he j x hj
   exact ⟨a.eval y,by simp at hy;simp [hy],hdy⟩
  ·rw [hcap o cc h1,h2,hqf]
   exact isGo_run hgo _ _
 cases g with
 | none =>
  have he:Exec none a:=by intro gd e;cases e
  refine ⟨fun _ o cc K Q ho hcal hargs hdst hK => ?_,fun hn=>(hn he).elim⟩
  simp only [ev_bind,ev_guard,ev_ret,Prod.mk.injEq] at hf
  obtain ⟨bs,hbs,_,hchk,rfl,rfl⟩:=hf
  obtain ⟨k1,hchk⟩:=bAnd_eq hchk
  obtain ⟨k2,hchk⟩:=bAnd_eq hchk
  obtain ⟨k3,k4⟩:=bAnd_eq hchk
  have k1:=nodupB_nodup k1
  have k2:=(beq_eq _ _).1 k2
  rw [len_eq,len_eq] at k2
  rw [len_eq] at k3
  have k3:=houtOk_lt k3
  have k4:=nodupB_nodup k4
  obtain ⟨b1,b2⟩:=blks_ev hbs
  simp only [mapL_eq] at he1 he2
  obtain ⟨ws,hws,hrun⟩:=run he
  have hmb:∀ (i id:Nat),c.m[i]?=some id→∃ b,look st.hp id=some b:=by
   intro i id hi
   have hlt:i<bs.length:=by
    rw [b1]
    rcases Nat.lt_or_ge i c.m.length with h | h
    ·exact h
    ·simp [List.getElem?_eq_none h] at hi
   obtain ⟨id',e1,e2⟩:=b2 i bs[i] (by simp [hlt])
   rw [hi] at e1
   simp only [Option.some.injEq] at e1
   subst e1
   exact ⟨_,e2⟩
  have hin:∀ (i:Nat) (b:Blk),c.hin[i]?=some b→∃ id,c.m[i]?=some id∧look st.hp id=some (b.ren (sigIn c.m)):=by
   intro i b hi
   have:bs[i]?=some (b.ren (sigIn c.m)):=by rw [he2];simp [hi]
   exact b2 i _ this
  refine upon_enter ho (hrun o cc hcal hargs) ?_
  have hcall:=prf D (fun i=>ρ (sigIn c.m i)) w ws (DenL.map_ren.1 (he1▸hws)) h.glob h.globW h.agree ?_ ?_
  ·refine hcall.mono ?_
   rintro e w' ⟨rs,ho',D',ρ',v,rfl,⟨rfl,rfl⟩,hres,hids,af⟩
   rw [← k2] at af
   refine ⟨v,rfl,hK _ _ ?_⟩
   obtain ⟨ρ'',r1,r2,hsat⟩:=h.after hfr k1 hmb k3 k4 af
   have hidsR:∀ (j:Nat) (x:V1),c.rs[j]?=some x→(∀ i,(∃ c_1,look c.hout i=some c_1)→ρ' i=ρ'' (sigOut c.m nid i)):=by
    intro j x hj i hi
    obtain ⟨b,hb⟩:=hi
    exact (r2 i (k3 i (look_fst hb))).symm
   have hres2:ResDen D' ρ'' (c.rs.map (V1.ren (sigOut c.m nid))) v:=by
    refine ResDen.ren ?_
    unfold ResDen at hres ⊢
    split at hres
    ·rename_i x hrs
     have hx:=hids 0 x (by rw [hrs];rfl)
     exact hres.agr (fun i hi=>hidsR 0 x (by rw [hrs];rfl) i hi) hx
    ·obtain ⟨us,e,hl⟩:=hres
     exact ⟨us,e,hl.1,fun j x hj=>let ⟨u,hu,hdd⟩:=hl.2 j x hj;⟨u,hu,hdd.agr (fun i hi=>hidsR j x hj i hi) (hids j x hj)⟩⟩
   have hidS:∀ (j:Nat) (x:V1),(c.rs.map (V1.ren (sigOut c.m nid)))[j]?=some x→x.inS (sPlus S nid):=by
    intro j x hj
    simp only [List.getElem?_map,Option.map_eq_some_iff] at hj
    obtain ⟨y,hy,rfl⟩:=hj
    refine V1.inS_ren.2 (V1.inS_mono (fun i hi => ?_) (hids j y hy))
    obtain ⟨b,hb⟩:=hi
    have hk:=k3 i (look_fst hb)
    rcases Nat.lt_or_ge i c.m.length with h1 | h1
    ·have e1:c.m[i]?=some c.m[i]:=by simp [h1]
     rw [(sig_in e1).2]
     obtain ⟨b',hb'⟩:=hmb i _ e1
     exact .inl (h.idH _ b' hb').1
    ·rw [sig_out h1];exact .inr ⟨by omega,by omega⟩
   refine ⟨D',ρ'',?_⟩
   rw [← List.append_assoc,sets_append,hdst]
   cases d with
   | none=>exact hsat.mono (fun _ h=>h) hWd
   | some d =>
    simp only [St.sets,mapL_eq]
    exact hsat.put (hd d rfl).1 (hd d rfl).2 hWd (resTV_den hres2) (resTV_inS hidS)
  ·intro i b hi
   obtain ⟨id,e1,e2⟩:=hin i b hi
   have e3:=(sig_in e1).1
   refine ⟨BlkSat.ren.1 ?_,fun lv o => ?_⟩
   ·rw [e3];exact h.hp id _ e2
   ·have lv:(ρ (sigIn c.m i)).2≠0:=lv
    show D (ρ (sigIn c.m i)).1 o=none
    rw [e3] at lv ⊢;exact h.sep id _ e2 lv o
  ·intro i j bi bj hi hj li lj e
   obtain ⟨idi,e1,hbi⟩:=hin i bi hi
   obtain ⟨idj,e2,hbj⟩:=hin j bj hj
   have li:(ρ (sigIn c.m i)).2≠0:=li
   have lj:(ρ (sigIn c.m j)).2≠0:=lj
   simp only [(sig_in e1).1,(sig_in e2).1] at e li lj
   have hid:=h.inj _ _ _ _ hbi hbj li lj e
   subst hid
   have hi':i<c.m.length:=by
    rcases Nat.lt_or_ge i c.m.length with h | h
    ·exact h
    ·simp [List.getElem?_eq_none h] at e1
   have hj':j<c.m.length:=by
    rcases Nat.lt_or_ge j c.m.length with h | h
    ·exact h
    ·simp [List.getElem?_eq_none h] at e2
   have:c.m[i]=c.m[j]:=by
    rw [List.getElem?_eq_getElem hi'] at e1
    rw [List.getElem?_eq_getElem hj'] at e2
    simp only [Option.some.injEq] at e1 e2
    rw [e1,e2]
   exact (List.getElem_inj k1).1 this
 | some gd =>
  simp only at hf
  split at hf
  ·rename_i dd x hrs
   simp only [ev_bind,ev_guard,ev_ret,Prod.mk.injEq] at hf
   obtain ⟨_,hchk,rfl,rfl⟩:=hf
   obtain ⟨k1,hchk⟩:=bAnd_eq hchk
   obtain ⟨k2,hchk⟩:=bAnd_eq hchk
   obtain ⟨k3,k4⟩:=bAnd_eq hchk
   have k1:c.m=[]:=by cases hm:c.m<;>simp_all [isNil]
   have k2:c.hin=[]:=by cases hm:c.hin<;>simp_all [isNil]
   have k3:c.hout=[]:=by cases hm:c.hout<;>simp_all [isNil]
   have xS:∀ S',x.inS S':=by
    intro S'
    cases x with
    | c y=>exact Cell.inS_flat k4
    | agg l=>exact fun j y hj=>Cell.inS_flat (flats_get k4 hj)
   have gok:=hg gd rfl
   simp only at he1
   refine ⟨fun he o cc K Q ho hcal hargs hdst hK => ?_,fun he => ?_⟩
   ·obtain ⟨ws,hws,hrun⟩:=run he
    refine upon_enter ho (hrun o cc hcal hargs) ?_
    have hcall:=prf D ρ w ws (he1▸hws) h.glob h.globW h.agree (by rw [k2];intro i b hi;simp at hi) (by rw [k2];intro i j bi bj hi;simp at hi)
    refine hcall.mono ?_
    rintro e w' ⟨rs,ho',D',ρ',v,rfl,⟨rfl,rfl⟩,hres,hids,af⟩
    rw [k2,k3] at af
    refine ⟨v,rfl,hK _ _ ?_⟩
    have af:After Γ.G ([]:List Nat).length D (fun i=>ρ (sigIn [] i)) w D' ρ' w' []:=af
    obtain ⟨ρ'',r1,r2,hsat⟩:=h.after hfr (m:=[]) (ho:=[]) List.nodup_nil (by intro i id hi;simp at hi) (by intro k hk;simp [fstL] at hk) List.nodup_nil af
    refine ⟨D',ρ'',?_⟩
    rw [hdst]
    have hres:DenV D' ρ'' x v:=by
     rw [hrs] at hres
     exact DenV.agr (S:=fun _=>False) (fun i hi=>hi.elim) (xS _) hres
    refine hsat.put (hd dd rfl).1 (hd dd rfl).2 hWd ?_ (xS _)
    have hne:dd≠gd.t:=fun e=>(hd dd rfl).2 (e▸gok.wr)
    refine ⟨hWd _ gok.wr,fun _=>hres,fun hn => ?_⟩
    simp only [Act.put] at hn
    rw [Array.getElem?_setIfInBounds,if_neg hne] at hn
    exact (hn (he gd rfl)).elim
   ·refine ⟨D,ρ,?_⟩
    simp only [St.sets]
    have h':=h.mono (S':=sPlus S nid) (fun _ h => .inl h) (W':=W) (fun _ h=>h)
    refine h'.put (hd dd rfl).1 (hd dd rfl).2 hWd ?_ (xS _)
    have hne:dd≠gd.t:=fun e=>(hd dd rfl).2 (e▸gok.wr)
    refine ⟨hWd _ gok.wr,fun ht => ?_,fun _=>rfl⟩
    simp only [Act.put] at ht
    rw [Array.getElem?_setIfInBounds,if_neg hne] at ht
    exact (he (fun gd' e=>by cases e;exact ht)).elim
  ·simp [ev_fail] at hf
end
end Go.Sv
end
section
namespace Go.Sv
open M
def tBytes (P:Program) (t:TypeId):Option Nat:=match P.info? t with
 | some i=>some i.bytes
 | none=>none
def notInt (P:Program) (t:TypeId):Bool:=match P.underlying t with
 | some (.slice _)=>true
 | some .string=>true
 | _=>false
structure Els where
 id:Option Nat
 n:Nat
 f:Nat→Nat→Cell
 vc:List Prop
def baseM (el sz:Nat):Cell→M Els
 | .nilsl=>ret ⟨none,0,fun _ _ => .nilif,[]⟩
 | .row s id off m=>bind (guard (bAnd (Nat.beq s sz) (Nat.beq off 0))) fun _=>bind (rowM id) fun r =>
   bind (guard (bAnd (Nat.beq r.1 el) (Nat.beq r.2.1 sz))) fun _=>ret ⟨some id,m,r.2.2.2,[m≤r.2.2.1]⟩
 | _=>fail
def notId (o:Option Nat) (id:Nat):Bool:=match o with
 | none=>true
 | some j=>match Nat.beq j id with
  | true=>false
  | false=>true
def srcM (sz:Nat) (no:Option Nat):Cell→M Els
 | .nilsl=>ret ⟨none,0,fun _ _ => .nilif,[]⟩
 | .sl s m f=>bind (guard (Nat.beq s sz)) fun _=>ret ⟨none,m,f,[]⟩
 | .row s id off m=>bind (guard (bAnd (Nat.beq s sz) (notId no id))) fun _=>bind (rowM id) fun r =>
   bind (guard (Nat.beq r.2.1 sz)) fun _=>ret ⟨some id,m,fun i j=>r.2.2.2 (off+i) j,[off+m≤r.2.2.1]⟩
 | .str s=>bind (guard (Nat.beq sz 1)) fun _=>ret ⟨none,s.length,fun i _ => .int .u8 ((s.getD i 0).toNat:Int),[]⟩
 | _=>fail
def catF (n:Nat) (f g:Nat→Nat→Cell):Nat→Nat→Cell:=fun i j=>if i<n then f i j else g (i-n) j
def goneW:Option Nat→List (Key×KV)→List (Key×KV)
 | none,l=>l
 | some id,l=>(.bk id,.gone)::l
def blkOf (E:Env) (i:Nat) (b:Blk):Blk×List Prop:=match look E.bs i with
 | none=>(b,[])
 | some b'=>(b',[BlkEqv b b'])
def appB (E:Env) (i el sz bytes nid d:Nat) (p q:Els):Eff :=
 ⟨goneW p.id [(.bk nid,.bk (blkOf E i (.row el sz (p.n+q.n) (catF p.n p.f q.f))).1),(.tm d,.tv (.v (.c (.row sz nid 0 (p.n+q.n)))))],
  ((p.n+q.n)*bytes≤140737488355328)::((blkOf E i (.row el sz (p.n+q.n) (catF p.n p.f q.f))).2++(p.vc++q.vc))⟩
def appendM (E:Env) (i nid:Nat) (g:OG) (d:Nat) (t t2:TypeId) (x y:Operand):M Eff :=
 bind (pure1 g) fun _=>bind (opdM E none x) fun v=>bind (cellM v) fun a=>bind (opdM E none y) fun u=>bind (cellM u) fun b =>
 bind (opt (tElem E.P t)) fun el=>bind (opt (tSize E.P el)) fun sz=>bind (opt (tBytes E.P el)) fun bytes=>bind (opt (tZero E.P el)) fun z =>
 bind (guard (bAnd (Nat.blt 0 sz) (bAnd (Nat.blt 0 bytes) (bAnd (Nat.beq (len z) sz) (notInt E.P t2))))) fun _ =>
 bind (baseM el sz a) fun p=>bind (srcM sz p.id b) fun q=>ret (appB E i el sz bytes nid d p q)
section
variable {P:Program} {w:World}
theorem notInt_ev {t2:TypeId} (h2:notInt P t2=true):(∃ e,P.underlying t2=some (.slice e))∨P.underlying t2=some .string:=by
 unfold notInt at h2
 split at h2
 ·rename_i e h;exact .inl ⟨e,h⟩
 ·rename_i h;exact .inr h
 ·cases h2
def roomS (b:Option Addr) (k need cap:Nat) (news:List Value):Sem Value:=do
 if let some a:=b then storeCells (a.add k) news
 pure (.slice b need cap)
theorem app_room {t t2 ty el:TypeId} {i:TypeInfo} (ht:P.underlying t=some (.slice el)) (h2:notInt P t2=true) (hi:P.info? el=some i) {n m cap:Nat} {x:Value} {news:Array Value} {b:Option Addr}
  (hl:(Builtin.lenOf x).run P w = .ok m w) (hf:(Builtin.firstCells i.size m x).run P w = .ok news w) (hr:n+m≤cap) :
  (Builtin.append_ #[t,t2] ty #[.slice b n cap,x]).run P w=(roomS b (n*i.size) (n+m) cap news.toList).run P w:=by
 rcases notInt_ev h2 with ⟨e,hd2⟩ | hd2<;>simp [Builtin.append_,roomS,run_underlying ht,run_underlying hd2,sizeOf,typeInfo,hi,hl,hf,hr]<;>rfl
theorem app_grow {t t2 ty el:TypeId} {i:TypeInfo} {z:Value} (ht:P.underlying t=some (.slice el)) (h2:notInt P t2=true) (hi:P.info? el=some i) (hz:i.zero=some z) {n m cap:Nat} {x:Value} {olds news:Array Value} {b:Option Addr}
  (hl:(Builtin.lenOf x).run P w = .ok m w) (hf:(Builtin.firstCells i.size m x).run P w.drew = .ok news w.drew) (ho:(Builtin.firstCells i.size n (.slice b n cap)).run P w.drew = .ok olds w.drew) (hg:cap<n+m)
  (h63:n+m≤maxLen) (hb:(n+m)*i.bytes≤140737488355328) :
  (Builtin.append_ #[t,t2] ty #[.slice b n cap,x]).run P w = .ok (.slice (some ⟨w.heap.size,0,none⟩) (n+m) (grownCap w (n+m) cap el))
   { w.drew with heap:=w.heap.push (.cells (olds++news++Builtin.zeroCells z.cells (grownCap w (n+m) cap el-(n+m))) el) }:=by
 have h48:=growslice_fits hg hb
 have hn:¬ (n+m≤cap):=by omega
 have h63':¬ (9223372036854775807<((n:Int)+(m:Int))):=by simp only [maxLen] at h63;omega
 have h48':¬ (281474976710656<Builtin.nextslicecap (n+m) cap*i.bytes):=by omega
 rcases notInt_ev h2 with ⟨e,hd2⟩ | hd2<;>
  (simp [Builtin.append_,run_underlying ht,run_underlying hd2,sizeOf,typeInfo,zeroValue,hi,hz,hl,hf,ho,hn,h63',h48',Question.forced,newRow,grownCap];try rfl)
end
def EA (D:Dat) (ρ:Rho) (sz n:Nat) (f:Nat→Nat→Cell) (us:Array Value):Prop:=us.size=n*sz∧∀ i,i<n→∀ j,j<sz→∃ u,us[i*sz+j]?=some u∧Den D ρ (f i j) u
theorem div_lt {sz n k:Nat} (hk:k<n*sz):0<sz∧k / sz<n∧k%sz<sz∧k / sz*sz+k%sz=k:=by
 have h0:0<sz:=by
  rcases Nat.eq_zero_or_pos sz with rfl | h
  ·simp at hk
  ·exact h
 refine ⟨h0,(Nat.div_lt_iff_lt_mul h0).2 hk,Nat.mod_lt _ h0,?_⟩
 rw [Nat.mul_comm];exact Nat.div_add_mod k sz
theorem EA.one {D:Dat} {ρ:Rho} {sz n:Nat} {f:Nat→Nat→Cell} {us:Array Value} (h:EA D ρ sz n f us):∀ v∈us.toList,one v:=by
 intro v hv
 obtain ⟨k,hk,e⟩:=List.getElem_of_mem hv
 have hk:k<n*sz:=by rw [← h.1];simpa using hk
 obtain ⟨_,h2,h3,h4⟩:=div_lt hk
 obtain ⟨u,hu,hd⟩:=h.2 _ h2 _ h3
 rw [h4] at hu
 have:us[k]?=some v:=by rw [← e];simp
 rw [hu] at this
 simp only [Option.some.injEq] at this
 subst this
 exact hd.one
theorem mul_lt {sz n i j:Nat} (hi:i<n) (hj:j<sz):i*sz+j<n*sz:=by
 have:(i+1)*sz≤n*sz:=Nat.mul_le_mul_right _ hi
 rw [Nat.add_mul] at this
 omega
theorem cells_run {P:Program} {D:Dat} {ρ:Rho} {w:World} {sz n b o:Nat} {f:Nat→Nat→Cell} (h:∀ i,i<n→∀ j,j<sz→∃ u,w.cell? ⟨b,o+i*sz+j,none⟩=some u∧Den D ρ (f i j) u) :
  ∃ us:Array Value,EA D ρ sz n f us∧(∀ k u,us[k]?=some u→w.cell? ⟨b,o+k,none⟩=some u)∧∀ w':World,w'.heap=w.heap→(loadCells ⟨b,o,none⟩ (n*sz)).run P w' = .ok us w':=by
 have hk:∀ k,k<n*sz→∃ u,w.cell? ⟨b,o+k,none⟩=some u∧Den D ρ (f (k / sz) (k%sz)) u:=by
  intro k hk
  obtain ⟨_,h2,h3,h4⟩:=div_lt hk
  obtain ⟨u,hu,hd⟩:=h _ h2 _ h3
  rw [Nat.add_assoc,h4] at hu
  exact ⟨u,hu,hd⟩
 let F:Nat→Value:=fun k=>if hh:k<n*sz then (hk k hh).choose else undef
 have hF:∀ k,k<n*sz→w.cell? ⟨b,o+k,none⟩=some (F k)∧Den D ρ (f (k / sz) (k%sz)) (F k):=by
  intro k h;simp only [F,dif_pos h];exact (hk k h).choose_spec
 refine ⟨((List.range (n*sz)).map F).toArray,⟨by simp,fun i hi j hj=>⟨F (i*sz+j),?_,?_⟩⟩,fun k u hu => ?_,fun w' hw => ?_⟩
 ·simp [mul_lt hi hj]
 ·have h0:0<sz:=by omega
  have:=(hF _ (mul_lt hi hj)).2
  rw [Nat.add_comm (i*sz),Nat.add_mul_mod_self_right,Nat.mod_eq_of_lt hj,Nat.add_mul_div_right _ _ h0,Nat.div_eq_of_lt hj,Nat.zero_add] at this
  rw [Nat.add_comm];exact this
 ·simp only [List.getElem?_toArray,List.getElem?_map,Option.map_eq_some_iff] at hu
  obtain ⟨k',hk',rfl⟩:=hu
  have hlt:k<n*sz:=by
   rcases Nat.lt_or_ge k (n*sz) with h | h
   ·exact h
   ·rw [List.getElem?_eq_none (by simpa using h)] at hk';cases hk'
  rw [List.getElem?_range hlt] at hk'
  simp only [Option.some.injEq] at hk'
  subst hk'
  exact (hF _ hlt).1
 ·exact run_loadCells w' ⟨b,o,none⟩ (n*sz) F (fun j hj=>by rw [addr_add,← (hF j hj).1];simp only [World.cell?,hw])
section
variable {Γ:Ctx} {S W:Nat→Prop} {D:Dat} {ρ:Rho} {st:St} {a:Act} {w:World} {E:Env} {i d nid:Nat} {g:OG} {eff:Eff}
theorem src_run (h:Sat Γ S W D ρ st a w) {sz:Nat} {no:Option Nat} {c:Cell} {q:Els} (hq:(srcM sz no c).Ev st.get q) (hvc:∀ p∈q.vc,p) {v:Value} (hd:Den D ρ c v) (hin:c.inS S) :
  (Builtin.lenOf v).run Γ.P w = .ok q.n w∧(∃ us,EA D rho0 sz q.n q.f us∧∀ w':World,w'.heap=w.heap→(Builtin.firstCells sz q.n v).run Γ.P w' = .ok us w'):=by
 cases c with
 | nilsl =>
  simp only [srcM,ev_ret] at hq
  subst hq
  simp only [Den] at hd
  subst hd
  exact ⟨by simp [Builtin.lenOf],⟨#[],⟨by simp,fun i hi=>by simp at hi⟩,fun w' _=>by simp [Builtin.firstCells]⟩⟩
 | sl s m f =>
  simp only [srcM,ev_bind,ev_guard,ev_ret] at hq
  obtain ⟨_,hs,rfl⟩:=hq
  have hs:=(beq_eq _ _).1 hs
  subst hs
  simp only [Den] at hd
  obtain ⟨ad,cap,rfl,h1,h2,h3⟩:=hd
  refine ⟨by simp [Builtin.lenOf],?_⟩
  rcases h3 with h3 | ⟨b,o,rfl,h3⟩
  ·have:m=0:=by omega
   subst this
   exact ⟨#[],⟨by simp,fun i hi=>by simp at hi⟩,fun w' _=>by
    cases ad with
    | none=>simp [Builtin.firstCells]
    | some q=>simp only [Builtin.firstCells,Nat.zero_mul]; exact run_loadCells_list (P:=Γ.P) (w:=w') q [] (fun j v hj=>by simp at hj)⟩
  ·obtain ⟨us,h4,_,h5⟩:=cells_run (P:=Γ.P) (D:=D) (ρ:=rho0) (w:=w) (sz:=s) (n:=m) (b:=b) (o:=o) (f:=f) (fun i hi j hj=>by
    obtain ⟨u,hu,hdn⟩:=h3 i hi j hj
    exact ⟨u,h.agree _ _ _ hu,hdn⟩)
   exact ⟨us,h4,fun w' hw=>by simp only [Builtin.firstCells];exact h5 w' hw⟩
 | row s id off m =>
  simp only [srcM,ev_bind,ev_guard,ev_ret] at hq
  obtain ⟨_,hs,r,hr,_,hz,rfl⟩:=hq
  have hs:=(beq_eq _ _).1 (bAnd_eq hs).1
  subst hs
  have hz:=(beq_eq _ _).1 hz
  have hrow:=row_ev hr
  have hle:off+m≤r.2.2.1:=hvc _ (by simp)
  refine ⟨?_,?_⟩
  ·simp only [Den] at hd
   rcases hd with ⟨o,rfl,_⟩ | ⟨_,_,rfl,ad,_,rfl⟩<;>simp [Builtin.lenOf]
  ·have none0:m=0→∃ us,EA D rho0 s m (fun i j=>r.2.2.2 (off+i) j) us∧∀ w':World,w'.heap=w.heap→(Builtin.firstCells s m v).run Γ.P w' = .ok us w':=by
    intro hm
    subst hm
    refine ⟨#[],⟨by simp,fun i hi=>by simp at hi⟩,fun w' _ => ?_⟩
    simp only [Den] at hd
    rcases hd with ⟨o,rfl,_⟩ | ⟨_,_,_,ad,_,rfl⟩
    ·simp [Builtin.firstCells,loadCells,loadCellsFrom]
    ·cases ad<;>simp [Builtin.firstCells,loadCells,loadCellsFrom]
   by_cases hm:m=0
   ·exact none0 hm
   ·rcases h.hp id _ hrow with hb | ⟨vs,fz,e1,e2,e3,e4,e5,e6,e7,e8⟩
    ·exact none0 (by have:=hb.2.1;omega)
    ·simp only [Den] at hd
     rcases hd with ⟨o,rfl,h1,h2⟩ | ⟨_,_,h2,_⟩
     ·have ho:o=off*s:=h2.resolve_right oM
      subst ho
      obtain ⟨us,h4,_,h5⟩:=cells_run (P:=Γ.P) (D:=D) (ρ:=rho0) (w:=w) (sz:=s) (n:=m) (b:=(ρ id).1) (o:=off*s) (f:=fun i j=>r.2.2.2 (off+i) j) (fun i hi j hj=>by
       obtain ⟨u,hu,hdn⟩:=e8 (off+i) oM j (by rw [hz];exact hj)
       refine ⟨u,?_,hdn⟩
       simp only [World.cell?,e1,Option.isSome_none,Bool.false_eq_true,if_false]
       rw [← hu,hz,Nat.add_mul])
      exact ⟨us,h4,fun w' hw=>by simp only [Builtin.firstCells];exact h5 w' hw⟩
     ·exact none0 h2
 | str s =>
  simp only [srcM,ev_bind,ev_guard,ev_ret] at hq
  obtain ⟨_,hs,rfl⟩:=hq
  have hs:=(beq_eq _ _).1 hs
  subst hs
  simp only [Den] at hd
  subst hd
  refine ⟨by simp [Builtin.lenOf,size_mk],⟨(s.map fun b=>Value.int .u8 (b.toNat:Int)).toArray,⟨by simp,fun i hi j hj => ?_⟩,fun w' _ => ?_⟩⟩
  ·have:j=0:=by omega
   subst this
   simp only at hi
   simp [Den,hi,List.getD]
  ·simp only [Builtin.firstCells,Sem.run_pure,Result.ok.injEq,and_true]
   have:(⟨s.toArray⟩:ByteArray).extract 0 s.length=⟨s.toArray⟩:=by
    rw [← size_mk s];exact ByteArray.extract_zero_size
   rw [this]
   simp
 | _=>simp [srcM,ev_fail] at hq
theorem Sat.del (h:Sat Γ S W D ρ st a w) (id:Nat):Sat Γ S W D ρ (st.set (.bk id) .gone) a w:=by
 have key:∀ i c,look (st.set (.bk id) .gone).hp i=some c→look st.hp i=some c:=by
  intro i c hc
  have e:look (st.set (.bk id) .gone).hp i=if id=i then none else look st.hp i:=look_del _ _ _
  rw [e] at hc
  split at hc
  ·cases hc
  ·exact hc
 exact { h with
  tm:=h.tm
  hp:=fun i b hb=>h.hp i b (key i b hb)
  inj:=fun i j bi bj hi hj=>h.inj i j bi bj (key i bi hi) (key j bj hj)
  sep:=fun i b hb=>h.sep i b (key i b hb)
  own:=fun i b hb=>h.own i b (key i b hb)
  idT:=h.idT
  idH:=fun i b hb=>h.idH i b (key i b hb) }
theorem Sat.drewn (h:Sat Γ S W D ρ st a w):Sat Γ S W D ρ st a w.drew :=
 { h with
  hp:=fun i b hb=>(h.hp i b hb).world rfl
  agree:=h.agree
  frame:=h.frame
  os:=h.os
  tape:=h.tape
  output:=h.output
  grow:=h.grow
  drawn:=fun n=>Nat.le_trans (h.drawn n) (Nat.le_succ _) }
theorem Sat.alias (h:Sat Γ S W D ρ st a w) (hf:Fresh S nid) {p:Nat×Nat} {b:Blk} (hb:BlkSat D (rhoSet ρ nid p) nid w b) (hin:b.inS S)
  (hl:p.2≠0→(∀ i bi,look st.hp i=some bi→Live ρ i bi→(ρ i).1≠p.1)∧(∀ o,D p.1 o=none)∧(Γ.w0.heap.size≤p.1∨∃ i,i<Γ.kin∧(Γ.ρ0 i).2≠0∧(Γ.ρ0 i).1=p.1)) :
  Sat Γ (sPlus S nid) W D (rhoSet ρ nid p) (st.set (.bk nid) (.bk b)) a w:=by
 have hnS:¬ S nid:=hf nid (Nat.le_refl _) oM
 have hr:∀ i,S i→ρ i=rhoSet ρ nid p i:=by
  intro i hi;unfold rhoSet;rw [if_neg];rintro rfl;exact hnS hi
 have hlv:∀ i bi,look st.hp i=some bi→(Live ρ i bi↔Live (rhoSet ρ nid p) i bi):=fun i bi hi=>Live.agr hr (h.idH i bi hi).1
 have hSp:∀ i,S i→sPlus S nid i:=fun i hi => .inl hi
 have hlook:∀ i,look (st.set (.bk nid) (.bk b)).hp i=if nid=i then some b else look st.hp i:=fun i=>look_put _ _ _ _
 have hrn:rhoSet ρ nid p nid=p:=by simp [rhoSet]
 have hln:∀ c,Live (rhoSet ρ nid p) nid c→p.2≠0:=fun c hc=>by have:=hc;simp only [Live,hrn] at this;exact this
 refine { defers:=h.defers,size:=h.size,tm := ?_,hp := ?_,inj := ?_,agree:=h.agree,sep := ?_,le:=h.le,glob:=h.glob,gl:=h.gl,own := ?_,kin := ?_,newD:=h.newD,frame:=h.frame,os:=h.os,tape:=h.tape,output:=h.output,grow:=h.grow,drawn:=h.drawn,idT := ?_,idH := ?_,kinS:=fun i hi=>hSp _ (h.kinS i hi) }
 ·intro t v hv
  obtain ⟨u,hu,hd⟩:=h.tm t v hv
  exact ⟨u,hu,hd.agr hr (h.idT t v hv)⟩
 ·intro id c hc
  rw [hlook] at hc
  by_cases e:nid=id
  ·subst e;rw [if_pos rfl] at hc;simp only [Option.some.injEq] at hc;subst hc;exact hb
  ·rw [if_neg e] at hc
   exact (h.hp id c hc).agr hr (h.idH id c hc).1 (h.idH id c hc).2
 ·intro i j bi bj hi hj li lj hij
  rw [hlook] at hi hj
  by_cases e1:nid=i<;>by_cases e2:nid=j
  ·rw [← e1,← e2]
  ·rw [if_neg e2] at hj
   subst e1
   rw [hrn,← hr j (h.idH j bj hj).1] at hij
   exact ((hl (hln _ li)).1 j bj hj ((hlv j bj hj).2 lj) hij.symm).elim
  ·rw [if_neg e1] at hi
   subst e2
   rw [hrn,← hr i (h.idH i bi hi).1] at hij
   exact ((hl (hln _ lj)).1 i bi hi ((hlv i bi hi).2 li) hij).elim
  ·rw [if_neg e1] at hi;rw [if_neg e2] at hj
   rw [← hr i (h.idH i bi hi).1,← hr j (h.idH j bj hj).1] at hij
   exact h.inj i j bi bj hi hj ((hlv i bi hi).2 li) ((hlv j bj hj).2 lj) hij
 ·intro id c hc lv o'
  rw [hlook] at hc
  by_cases e:nid=id
  ·subst e
   rw [hrn]
   exact (hl (hln _ lv)).2.1 o'
  ·rw [if_neg e] at hc
   rw [← hr id (h.idH id c hc).1]
   exact h.sep id c hc ((hlv id c hc).2 lv) o'
 ·intro id c hc lv
  rw [hlook] at hc
  by_cases e:nid=id
  ·subst e;rw [hrn];exact (hl (hln _ lv)).2.2
  ·rw [if_neg e] at hc
   rw [← hr id (h.idH id c hc).1]
   exact h.own id c hc ((hlv id c hc).2 lv)
 ·intro i hi
  rw [← hr i (h.kinS i hi)]
  exact h.kin i hi
 ·exact fun t v hv=>TV.inS_mono hSp (h.idT t v hv)
 ·intro id c hc
  rw [hlook] at hc
  by_cases e:nid=id
  ·subst e
   rw [if_pos rfl] at hc
   simp only [Option.some.injEq] at hc
   subst hc
   exact ⟨.inr ⟨Nat.le_refl _,by omega⟩,Blk.inS_mono hSp hin⟩
  ·rw [if_neg e] at hc
   exact ⟨hSp _ (h.idH id c hc).1,Blk.inS_mono hSp (h.idH id c hc).2⟩
theorem base_ev {el sz:Nat} {c:Cell} {p:Els} (hp:(baseM el sz c).Ev st.get p) :
  (c = .nilsl∧p=⟨none,0,fun _ _ => .nilif,[]⟩)∨∃ id m n f,c = .row sz id 0 m∧look st.hp id=some (.row el sz n f)∧p=⟨some id,m,f,[m≤n]⟩:=by
 cases c with
 | nilsl=>simp only [baseM,ev_ret] at hp; exact .inl ⟨rfl,hp.symm⟩
 | row s id off m =>
  simp only [baseM,ev_bind,ev_guard,ev_ret] at hp
  obtain ⟨_,hs,r,hr,_,hz,rfl⟩:=hp
  have h1:=(beq_eq _ _).1 (bAnd_eq hs).1
  have h2:=(beq_eq _ _).1 (bAnd_eq hs).2
  have h3:=(beq_eq _ _).1 (bAnd_eq hz).1
  have h4:=(beq_eq _ _).1 (bAnd_eq hz).2
  subst h1 h2
  refine .inr ⟨id,m,r.2.2.1,r.2.2.2,rfl,?_,rfl⟩
  have:=row_ev hr
  rw [h3,h4] at this
  exact this
 | _=>simp [baseM,ev_fail] at hp
theorem blkOf_sat {b:Blk} (hvc:∀ p∈(blkOf E i b).2,p):(∀ D ρ id w,BlkSat D ρ id w b→BlkSat D ρ id w (blkOf E i b).1)∧(∀ S,b.inS S→(blkOf E i b).1.inS S):=by
 unfold blkOf at hvc ⊢
 split
 ·exact ⟨fun _ _ _ _ h=>h,fun _ h=>h⟩
 ·rename_i b' hb
  rw [hb] at hvc
  have:BlkEqv b b':=hvc _ (by simp)
  exact this
theorem zeroCells_one {z:Array Value} (hz:∀ v∈z.toList,one v) (n:Nat):∀ (k:Nat) (u:Value),(Builtin.zeroCells z n)[k]?=some u→one u:=by
 intro k u hu
 simp only [Builtin.zeroCells,Array.getElem?_map,Option.map_eq_some_iff] at hu
 obtain ⟨j,hj,rfl⟩:=hu
 have hj':j<n*z.size:=by
  rw [Array.getElem?_range] at hj
  split at hj
  ·simp only [Option.some.injEq] at hj;omega
  ·cases hj
 have h0:0<z.size:=by
  rcases Nat.eq_zero_or_pos z.size with h | h
  ·rw [h] at hj';simp at hj'
  ·exact h
 have hm:j%z.size<z.size:=Nat.mod_lt _ h0
 rw [getElem!_pos z _ hm]
 exact hz _ (by simp)
end
theorem catF_get {D:Dat} {ρ:Rho} {sz n m:Nat} {f g:Nat→Nat→Cell} {us vs:Array Value} (h1:EA D ρ sz n f us) (h2:EA D ρ sz m g vs) {arr:Array Value}
  (ha:∀ k,k<n*sz→arr[k]?=us[k]?) (hb:∀ k,k<m*sz→arr[n*sz+k]?=vs[k]?):∀ i,i<n+m→∀ j,j<sz→∃ u,arr[i*sz+j]?=some u∧Den D ρ (catF n f g i j) u:=by
 intro i hi j hj
 by_cases hn:i<n
 ·obtain ⟨u,hu,hd⟩:=h1.2 i hn j hj
  exact ⟨u,by rw [ha _ (mul_lt hn hj)];exact hu,by simp only [catF,hn,if_true];exact hd⟩
 ·obtain ⟨u,hu,hd⟩:=h2.2 (i-n) oM j hj
  refine ⟨u,?_,by simp only [catF,hn,if_false];exact hd⟩
  rw [← hu,← hb _ (mul_lt oM hj)]
  congr 1
  have:i*sz=n*sz+(i-n)*sz:=by rw [← Nat.add_mul];congr 1;omega
  omega
section
variable {Γ:Ctx} {S W:Nat→Prop} {D:Dat} {ρ:Rho} {st:St} {a:Act} {w:World} {E:Env} {i d nid:Nat} {g:OG} {eff:Eff}
theorem Sat.goneO (h:Sat Γ S W D ρ st a w) (o:Option Nat):Sat Γ S W D ρ (st.sets (goneW o [])) a w:=by
 cases o with
 | none=>exact h
 | some id=>exact h.del id
theorem goneW_sets (o:Option Nat) (l:List (Key×KV)):st.sets (goneW o l)=(st.sets (goneW o [])).sets l:=by cases o<;>rfl
theorem append_ok (hP:E.P=Γ.P) (hG:E.G=Γ.G) (h:Sat Γ S W D ρ st a w) (hfr:Fresh S nid) (hd:d<Γ.N) (hnd:¬ W d) {t t2 ty:TypeId} {x y:Operand}
  (hf:(appendM E i nid g d t t2 x y).Ev st.get eff) (hvc:∀ p∈eff.vc,p):g=none∧EffOk Γ S W st a w (some d) nid eff (Builtin.append_ #[t,t2] ty #[a.eval x,a.eval y]):=by
 simp only [appendM,ev_bind,ev_opt,ev_guard,ev_ret] at hf
 obtain ⟨_,hg1,v,hv,c,hc,v2,hv2,c2,hc2,el,hel,sz,hsz,bytes,hby,z,hz,_,hb,p,hp,q,hq,rfl⟩:=hf
 have hg0:g=none:=by cases g with
  | none=>rfl
  | some gd=>simp [pure1,ev_fail] at hg1
 refine ⟨hg0,?_⟩
 have:=cell_ev hc
 subst this
 have:=cell_ev hc2
 subst this
 rw [hP] at hel hsz hz hby hb
 obtain ⟨hb1,hb⟩:=bAnd_eq hb
 obtain ⟨hb2,hb⟩:=bAnd_eq hb
 obtain ⟨hb3,hb4⟩:=bAnd_eq hb
 have hb1:0<sz:=Nat.le_of_ble_eq_true hb1
 have hb2:0<bytes:=Nat.le_of_ble_eq_true hb2
 have hb3:=(beq_eq _ _).1 hb3
 rw [len_eq] at hb3
 have hu:Γ.P.underlying t=some (.slice el):=by
  unfold tElem at hel
  split at hel
  ·rename_i e hh;simp only [Option.some.injEq] at hel;subst hel;exact hh
  ·cases hel
 obtain ⟨inf,hinf,rfl⟩:∃ inf,Γ.P.info? el=some inf∧inf.size=sz:=by
  unfold tSize at hsz
  split at hsz
  ·rename_i inf hh;simp only [Option.some.injEq] at hsz;exact ⟨inf,hh,hsz⟩
  ·cases hsz
 have hby:inf.bytes=bytes:=by unfold tBytes at hby;rw [hinf] at hby;simpa using hby
 subst hby
 obtain ⟨zv,hzr,hzd,hzi⟩:=zero_run hz D ρ w
 have hzv:inf.zero=some zv:=by
  unfold tZero at hz
  rw [hinf] at hz
  simp only at hz
  cases hh:inf.zero with
  | none=>rw [hh] at hz; cases hz
  | some z'=>simp [zeroValue,typeInfo,hinf,hh] at hzr; rw [hzr]
 have zsz:zv.cells.size=inf.size:=by rw [hzd.1,hb3]
 have zone:∀ v∈zv.cells.toList,one v:=by
  intro v hv
  obtain ⟨k,hk,e⟩:=List.getElem_of_mem hv
  have hk':k<z.length:=by rw [← hzd.1];simpa using hk
  obtain ⟨u,hu,hdn⟩:=hzd.2 k _ (by simp [hk']:z[k]?=some z[k])
  have:zv.cells[k]?=some v:=by rw [← e];simp
  rw [hu] at this
  simp only [Option.some.injEq] at this
  subst this
  exact hdn.one
 have hex:Exec none a:=by intro gd e;cases e
 have hgo:GdOk W none a:=by intro gd e;cases e
 have d1:=opd_den hG h hgo hex hv
 have d2:=opd_den hG h hgo hex hv2
 have i1:=opd_inS hG h hv
 have i2:=opd_inS hG h hv2
 simp only [appB] at hvc
 have vb:(p.n+q.n)*inf.bytes≤140737488355328:=hvc _ (by simp)
 have vp:∀ x∈p.vc,x:=fun x hx=>hvc x (by simp [hx])
 have vq:∀ x∈q.vc,x:=fun x hx=>hvc x (by simp [hx])
 have vk:∀ x∈(blkOf E i (.row el inf.size (p.n+q.n) (catF p.n p.f q.f))).2,x:=fun x hx=>hvc x (by simp [hx])
 obtain ⟨k1,k2⟩:=blkOf_sat vk
 obtain ⟨hl,⟨news,hea,hfc⟩⟩:=src_run h hq vq d2 i2
 have h63:p.n+q.n≤maxLen:=by
  have:p.n+q.n≤(p.n+q.n)*inf.bytes:=Nat.le_mul_of_pos_right _ hb2
  unfold maxLen;omega
 have hbase:(∃ ad:Option Addr,(ad=none∨∃ b o,ad=some ⟨b,o,none⟩)∧a.eval x = .slice ad 0 0∧p.n=0)∨∃ id m n f vs fz,p=⟨some id,m,f,[m≤n]⟩∧look st.hp id=some (.row el inf.size n f)∧m≤n∧a.eval x = .slice (some ⟨(ρ id).1,0,none⟩) m (ρ id).2∧(ρ id).2≠0 ∧
   w.heap[(ρ id).1]?=some (.cells vs el fz)∧vs.size=(ρ id).2*inf.size∧clear fz vs.size∧n≤(ρ id).2∧(ρ id).2≤maxLen∧(∀ (j:Nat) (u:Value),vs[j]?=some u→one u) ∧
   ∀ i,i<n→∀ j,j<inf.size→∃ u,vs[i*inf.size+j]?=some u∧Den D rho0 (f i j) u:=by
  rcases base_ev hp with ⟨rfl,rfl⟩ | ⟨id,m,n,f,rfl,hrow,rfl⟩
  ·simp only [DenV,Den] at d1;exact .inl ⟨none,.inl rfl,d1,rfl⟩
  ·have hmn:m≤n:=vp _ (by simp)
   simp only [DenV,Den] at d1
   rcases d1 with ⟨o,e1,e2,e3⟩ | ⟨e1,_,e3,ad,hsp,e4⟩
   ·by_cases h0:(ρ id).2=0
    ·have:m=0:=by omega
     subst this
     exact .inl ⟨some ⟨(ρ id).1,o,none⟩,.inr ⟨_,_,rfl⟩,by rw [e1,h0],rfl⟩
    ·have:o=0:=by rcases e3 with e3 | e3<;>omega
     subst this
     rcases h.hp id _ hrow with hbk | ⟨vs,fz,q1,q2,q3,q4,q5,q6,q7,q8⟩
     ·exact (h0 hbk.1).elim
     ·exact .inr ⟨id,m,n,f,vs,fz,rfl,hrow,hmn,e1,h0,q1,q2,q3,q4,q5,q7,q8⟩
   ·exact .inl ⟨ad,hsp,by rw [e4],e3⟩
 have inB:(Blk.row el inf.size (p.n+q.n) (catF p.n p.f q.f)).inS S:=trivial
 have hnS:¬ S nid:=hfr nid (Nat.le_refl _) oM
 have hag:∀ pr:Nat×Nat,∀ i,S i→ρ i=rhoSet ρ nid pr i:=by
  intro pr i hi;unfold rhoSet;rw [if_neg];rintro rfl;exact hnS hi
 have hrn:∀ pr:Nat×Nat,rhoSet ρ nid pr nid=pr:=by intro pr;simp [rhoSet]
 have mkB:∀ (pr:Nat×Nat) (w':World) (arr:Array Value) (fz:Nat×Nat),w'.heap[pr.1]?=some (.cells arr el fz)→arr.size=pr.2*inf.size→clear fz arr.size→p.n+q.n≤pr.2→pr.2≤maxLen→(∀ (j:Nat) (u:Value),arr[j]?=some u→one u) →
   (∀ i,i<p.n+q.n→∀ j,j<inf.size→∃ u,arr[i*inf.size+j]?=some u∧Den D rho0 (catF p.n p.f q.f i j) u)→BlkSat D (rhoSet ρ nid pr) nid w' (blkOf E i (.row el inf.size (p.n+q.n) (catF p.n p.f q.f))).1:=by
  intro pr w' arr fz q1 q2 q3 q4 q5 q6 q7
  refine k1 _ _ _ _ (.inr ⟨arr,fz,by rw [hrn];exact q1,by rw [hrn];exact q2,q3,by rw [hrn];exact q4,by rw [hrn];exact q5,hb1,q6,fun i hi j hj => ?_⟩)
  obtain ⟨u,hu,hdn⟩:=q7 i hi j hj
  exact ⟨u,hu,hdn⟩
 have hgrow:∀ (b:Option Addr) (cap:Nat) (olds:Array Value),a.eval x = .slice b p.n cap→EA D rho0 inf.size p.n p.f olds→(Builtin.firstCells inf.size p.n (.slice b p.n cap)).run Γ.P w.drew = .ok olds w.drew→cap<p.n+q.n →
   EffOk Γ S W st a w (some d) nid (appB E i el inf.size inf.bytes nid d p q) (Builtin.append_ #[t,t2] ty #[a.eval x,a.eval y]):=by
  intro b cap olds he ho hfo hg
  have hfc':=hfc w.drew rfl
  refine ⟨_,_,by rw [he];exact app_grow hu hb4 hinf hzv hl hfc' hfo hg h63 vb,?_⟩
  have hge:=grownCap_ge w (p.n+q.n) cap el
  have hcm:=grownCap_le_maxLen w (p.n+q.n) cap el h63
  have hBS:=mkB (w.heap.size,grownCap w (p.n+q.n) cap el) { w.drew with heap:=w.heap.push (.cells (olds++news++Builtin.zeroCells zv.cells (grownCap w (p.n+q.n) cap el-(p.n+q.n))) el) }
   (olds++news++Builtin.zeroCells zv.cells (grownCap w (p.n+q.n) cap el-(p.n+q.n))) (0,0) (push_new _ _) (by
    simp only [Array.size_append,size_zeroCells,ho.1,hea.1,zsz,← Nat.add_mul]
    congr 1;omega) (clear00 _) hge hcm (by
    intro j u hj
    rw [Array.getElem?_append,Array.getElem?_append] at hj
    split at hj
    ·split at hj
     ·exact ho.one u (by have:=Array.mem_of_getElem? hj;simpa using this)
     ·exact hea.one u (by have:=Array.mem_of_getElem? hj;simpa using this)
    ·exact zeroCells_one zone _ _ _ hj) (catF_get ho hea (fun k hk=>by
     rw [Array.getElem?_append,if_pos (by simp [ho.1];omega),Array.getElem?_append,if_pos (by rw [ho.1];exact hk)]) (fun k hk=>by
     rw [Array.getElem?_append,if_pos (by simp [ho.1,hea.1];omega),Array.getElem?_append,if_neg (by rw [ho.1];omega),ho.1];congr 1;omega))
  have hs:=((h.goneO p.id).drewn.new hfr hBS (k2 S inB)).put (W':=fun t=>W t∨some d=some t) hd hnd (fun t ht => .inl ht) (v := .v (.c (.row inf.size nid 0 (p.n+q.n))))
   (u := .slice (some ⟨w.heap.size,0,none⟩) (p.n+q.n) (grownCap w (p.n+q.n) cap el)) (.inl ⟨0,by simp [rhoSet],by simp only [Nat.zero_add];exact Nat.le_trans hge (Nat.le_of_eq (by rw [hrn])),.inl (by simp)⟩) (.inr ⟨Nat.le_refl _,by omega⟩)
  refine ⟨D,rhoSet ρ nid (w.heap.size,grownCap w (p.n+q.n) cap el),?_⟩
  simp only [appB]
  rw [goneW_sets]
  exact hs
 rcases hbase with ⟨ad,hsp,he,hn0⟩ | ⟨id,m,n,f,vs,fz,rfl,hrow,hmn,he,hlive,q1,q2,q3,q4,q5,q6,q7⟩
 ·have hold:∀ w',(Builtin.firstCells inf.size p.n (.slice ad p.n 0)).run Γ.P w' = .ok #[] w':=by
   intro w'
   rw [hn0]
   cases ad<;>simp [Builtin.firstCells,loadCells,loadCellsFrom]
  have hoe:EA D rho0 inf.size p.n p.f #[]:=⟨by simp [hn0],fun i hi=>by omega⟩
  by_cases hq0:q.n=0
  ·
   have hnews:news=#[]:=by
    have:=hea.1
    rw [hq0,Nat.zero_mul] at this
    exact Array.eq_empty_of_size_eq_zero this
   have he0:a.eval x = .slice ad p.n 0:=by rw [he,hn0]
   refine ⟨.slice ad 0 0,w,?_,D,rhoSet ρ nid (0,0),?_⟩
   ·rw [he0,app_room hu hb4 hinf hl (hfc w rfl) oM]
    rw [hnews,hn0,hq0]
    cases ad<;>simp [roomS,storeCells]
   ·have hBS:BlkSat D (rhoSet ρ nid (0,0)) nid w (blkOf E i (.row el inf.size (p.n+q.n) (catF p.n p.f q.f))).1:=k1 _ _ _ _ (.inl ⟨by rw [hrn],by omega,hb1⟩)
    have hs:=((h.goneO p.id).alias hfr hBS (k2 S inB) (fun hh=>(hh rfl).elim)).put (W':=fun t=>W t∨some d=some t) hd hnd (fun t ht => .inl ht) (v := .v (.c (.row inf.size nid 0 (p.n+q.n))))
     (u := .slice ad 0 0) (.inr ⟨by rw [hrn],rfl,by omega,ad,hsp,rfl⟩) (.inr ⟨Nat.le_refl _,by omega⟩)
    simp only [appB]
    rw [goneW_sets]
    exact hs
  ·exact hgrow ad 0 #[] (by rw [he,hn0]) hoe (hold _) oM
 ·by_cases hroom:m+q.n≤(ρ id).2
  ·
   have hfit:m*inf.size+0+news.toList.length≤vs.size:=by
    rw [q2]
    have:(m+q.n)*inf.size≤(ρ id).2*inf.size:=Nat.mul_le_mul_right _ hroom
    rw [Nat.add_mul] at this
    have:=hea.1
    simp only [Array.length_toList]
    omega
   obtain ⟨w',arr',r1,r2,r3,r4⟩:=storeCells_run (P:=Γ.P) (m*inf.size) news.toList 0 w vs q1 q3 hfit hea.one
   refine ⟨.slice (some ⟨(ρ id).1,0,none⟩) (m+q.n) (ρ id).2,w',?_,D,rhoSet ρ nid (ρ id),?_⟩
   ·rw [he,app_room hu hb4 hinf hl (hfc w rfl) hroom]
    simp only [roomS,Sem.run_bind,addr_add,Nat.zero_add,r1]
    rfl
   ·have hone':∀ (j:Nat) (u:Value),arr'[j]?=some u→one u:=by
     intro j u hj
     rw [r4] at hj
     split at hj
     ·exact hea.one u (by have:=List.mem_of_getElem? hj;simpa using this)
     ·exact q6 j u hj
    have hcat:∀ i,i<m+q.n→∀ j,j<inf.size→∃ u,arr'[i*inf.size+j]?=some u∧Den D rho0 (catF m f q.f i j) u:=by
     intro i hi j hj
     by_cases hi':i<m
     ·obtain ⟨u,hu,hdn⟩:=q7 i oM j hj
      refine ⟨u,?_,by simp only [catF,hi',if_true];exact hdn⟩
      rw [r4,if_neg]
      ·exact hu
      ·have:=mul_lt hi' hj;omega
     ·obtain ⟨u,hu,hdn⟩:=hea.2 (i-m) oM j hj
      refine ⟨u,?_,by simp only [catF,hi',if_false];exact hdn⟩
      have e1:i*inf.size=m*inf.size+(i-m)*inf.size:=by rw [← Nat.add_mul];congr 1;omega
      have e2:=mul_lt (show i-m<q.n by omega) hj
      have e3:=hea.1
      rw [r4,if_pos (by simp only [Array.length_toList,Nat.add_zero];omega),Nat.add_zero]
      have:i*inf.size+j-m*inf.size=(i-m)*inf.size+j:=by omega
      rw [this];simpa using hu
    have hlv:Live ρ id (.row el inf.size n f):=hlive
    have hup:=h.upd (b' := .row el inf.size (m+q.n) (catF m f q.f)) hrow hlv r2 (.inr ⟨arr',fz,r2.at_,by rw [r3];exact q2,by rw [r3];exact q3,hroom,q5,hb1,hone',hcat⟩) inB
    have hbk:look (st.set (.bk id) (.bk (.row el inf.size (m+q.n) (catF m f q.f)))).hp id=some (.row el inf.size (m+q.n) (catF m f q.f)):=by
     have:∀ i,look (st.set (.bk id) (.bk (.row el inf.size (m+q.n) (catF m f q.f)))).hp i=if id=i then some (.row el inf.size (m+q.n) (catF m f q.f)) else look st.hp i:=fun i=>look_put _ _ _ _
     rw [this,if_pos rfl]
    have hdel:=hup.del id
    have hBS:=mkB (ρ id) w' arr' fz r2.at_ (by rw [r3];exact q2) (by rw [r3];exact q3) hroom q5 hone' hcat
    have hal:=hdel.alias (p:=ρ id) hfr hBS (k2 S inB) (fun _=>⟨fun j bj hj lj hij=>by
     have e:∀ i,look ((st.set (.bk id) (.bk (.row el inf.size (m+q.n) (catF m f q.f)))).set (.bk id) .gone).hp i=if id=i then none else look (st.set (.bk id) (.bk (.row el inf.size (m+q.n) (catF m f q.f)))).hp i:=fun i=>look_del _ _ _
     rw [e] at hj
     split at hj
     ·cases hj
     ·rename_i hne
      exact hne (hup.inj id j _ bj hbk hj hlive lj hij.symm),hup.sep id _ hbk hlive,hup.own id _ hbk hlive⟩)
    have hcg:Sat Γ (sPlus S nid) W D (rhoSet ρ nid (ρ id)) ((st.set (.bk id) .gone).set (.bk nid) (.bk (blkOf E i (.row el inf.size (m+q.n) (catF m f q.f))).1)) a w':=by
     refine Sat.congr (fun t => ?_) (fun k => ?_) hal
     ·rfl
     ·simp only [St.set,look_put,look_del]
      split
      ·rfl
      ·split<;>rfl
    have hs:=hcg.put (W':=fun t=>W t∨some d=some t) hd hnd (fun t ht => .inl ht) (v := .v (.c (.row inf.size nid 0 (m+q.n))))
     (u := .slice (some ⟨(ρ id).1,0,none⟩) (m+q.n) (ρ id).2) (.inl ⟨0,by simp [rhoSet],by simp only [Nat.zero_add];exact Nat.le_trans hroom (Nat.le_of_eq (by rw [hrn])),.inl (by simp)⟩) (.inr ⟨Nat.le_refl _,by omega⟩)
    simp only [appB]
    exact hs
  ·obtain ⟨us,h4,_,h5⟩:=cells_run (P:=Γ.P) (D:=D) (ρ:=rho0) (w:=w) (sz:=inf.size) (n:=m) (b:=(ρ id).1) (o:=0) (f:=f) (fun i hi j hj=>by
    obtain ⟨u,hu,hdn⟩:=q7 i oM j hj
    refine ⟨u,?_,hdn⟩
    simp only [World.cell?,q1,Option.isSome_none,Bool.false_eq_true,if_false,Nat.zero_add]
    exact hu)
   exact hgrow (some ⟨(ρ id).1,0,none⟩) (ρ id).2 us he h4 (by simp only [Builtin.firstCells];exact h5 w.drew rfl) (by simp only;omega)
end
end Go.Sv
end
section
namespace Go.Sv
open M
section
variable {Γ:Ctx} {S W:Nat→Prop} {D:Dat} {ρ:Rho} {st:St} {a:Act} {w:World} {E:Env} {i d nid:Nat} {g:OG} {eff:Eff}
theorem Sat.publish (h:Sat Γ S W D ρ st a w) {id:Nat} {e:TypeId} {sz n:Nat} {f:Nat→Nat→Cell} (hb:look st.hp id=some (.row e sz n f)) :
  ∃ D',DatLe D D'∧Sat Γ S W D' ρ (st.set (.bk id) .gone) a w∧∀ u off m,off+m≤n→Den D ρ (.row sz id off m) u→Den D' rho0 (.sl sz m (fun i j=>f (off+i) j)) u:=by
 have empty:∀ D' u off m,(ρ id).2=0→Den D ρ (.row sz id off m) u→Den D' rho0 (.sl sz m (fun i j=>f (off+i) j)) u:=by
  intro D' u off m h0 hd
  simp only [Den] at hd ⊢
  rcases hd with ⟨o,rfl,h1,_⟩ | ⟨_,_,rfl,ad,hsp,rfl⟩
  ·have:m=0:=by omega
   subst this
   exact ⟨_,_,rfl,by omega,by omega,.inr ⟨_,_,rfl,fun i hi=>by omega⟩⟩
  ·refine ⟨ad,0,rfl,Nat.le_refl _,by omega,?_⟩
   rcases hsp with rfl | ⟨b,o,rfl⟩
   ·exact .inl rfl
   ·exact .inr ⟨b,o,rfl,fun i hi=>by omega⟩
 by_cases h0:(ρ id).2=0
 ·exact ⟨D,DatLe.refl D,h.del id,fun u off m _ hd=>empty D u off m h0 hd⟩
 ·rcases h.hp id _ hb with hbk | ⟨vs,fz,q1,q2,q3,q4,q5,q6,q7,q8⟩
  ·exact (h0 hbk.1).elim
  have hlv:Live ρ id (.row e sz n f):=h0
  have hsep:=h.sep id _ hb hlv
  refine ⟨fun b o=>if b=(ρ id).1 then vs[o]? else D b o,?_,?_,?_⟩
  ·intro b o v hv
   have:b≠(ρ id).1:=by rintro rfl;rw [hsep] at hv;cases hv
   simp only [this,if_false];exact hv
  ·have hle:DatLe D (fun b o=>if b=(ρ id).1 then vs[o]? else D b o):=by
    intro b o v hv
    have:b≠(ρ id).1:=by rintro rfl;rw [hsep] at hv;cases hv
    simp only [this,if_false];exact hv
   have key:∀ i c,look (st.set (.bk id) .gone).hp i=some c→id≠i∧look st.hp i=some c:=by
    intro i c hc
    have e:look (st.set (.bk id) .gone).hp i=if id=i then none else look st.hp i:=look_del _ _ _
    rw [e] at hc
    split at hc
    ·cases hc
    ·exact ⟨by assumption,hc⟩
   exact { h with
    tm:=fun t v hv=>let ⟨u,hu,hd⟩:=h.tm t v hv;⟨u,hu,hd.mono hle⟩
    hp:=fun i b hb=>(h.hp i b (key i b hb).2).mono hle
    inj:=fun i j bi bj hi hj=>h.inj i j bi bj (key i bi hi).2 (key j bj hj).2
    agree:=by
     intro b o v hv
     have hv2:(if b=(ρ id).1 then vs[o]? else D b o)=some v:=hv
     by_cases hbb:b=(ρ id).1
     ·rw [if_pos hbb] at hv2
      rw [hbb]
      simp only [World.cell?,q1,Option.isSome_none,Bool.false_eq_true,if_false]
      exact hv2
     ·rw [if_neg hbb] at hv2
      exact h.agree b o v hv2
    sep:=by
     intro j bj hj lj o
     obtain ⟨hne,hj⟩:=key j bj hj
     have this:(ρ j).1≠(ρ id).1:=fun hh=>hne (h.inj id j _ bj hb hj hlv lj hh.symm)
     show (if (ρ j).1=(ρ id).1 then vs[o]? else D (ρ j).1 o)=none
     rw [if_neg this]
     exact h.sep j bj hj lj o
    le:=h.le.trans hle
    glob:=fun g cs hg j x hx=>let ⟨u,hu,hd⟩:=h.glob g cs hg j x hx;⟨u,hle _ _ _ hu,Den.mono hle _ _ _ hd⟩
    own:=fun i b hb=>h.own i b (key i b hb).2
    newD:=by
     intro b o v hv
     have hv:(if b=(ρ id).1 then vs[o]? else D b o)=some v:=hv
     by_cases hbb:b=(ρ id).1
     ·subst hbb
      rcases h.own id _ hb hlv with h1 | h1
      ·exact .inr (.inl h1)
      ·exact .inr (.inr h1)
     ·rw [if_neg hbb] at hv
      exact h.newD b o v hv
    idT:=h.idT
    idH:=fun i b hb=>h.idH i b (key i b hb).2 }
  ·intro u off m hle hd
   simp only [Den] at hd ⊢
   rcases hd with ⟨o,rfl,h1,h2⟩ | ⟨hh,_⟩
   ·refine ⟨_,_,rfl,by omega,by omega,.inr ⟨_,_,rfl,fun i hi j hj => ?_⟩⟩
    have ho:o=off*sz:=h2.resolve_right oM
    subst ho
    obtain ⟨u,hu,hdn⟩:=q8 (off+i) oM j hj
    refine ⟨u,?_,Den.mono (fun b o v hv => ?_) _ _ _ hdn⟩
    ·simp only [if_true]
     rw [← hu,Nat.add_mul]
    ·have:b≠(ρ id).1:=by rintro rfl;rw [hsep] at hv;cases hv
     simp only [this,if_false];exact hv
   ·exact (h0 hh).elim
end
def buildPubM (E:Env) (i nid:Nat) (g:OG) (d:Nat) (t:TypeId) (n:Nat) (ps:List (Nat×Operand)):M Eff :=
 match look E.as i with
 | none=>buildSlM E i nid g d t n ps
 | some v'=>bind (buildSlM E i nid g d t n ps) fun e=>match e.wr with
  | (_,.bk (.row _ sz m f))::_=>ret ⟨[(.tm d,.tv (.v v'))],EqvI (.c (.sl sz m f)) v'::EqvD (.c (.sl sz m f)) v'::e.vc⟩
  | _=>fail
section
variable {Γ:Ctx} {S W:Nat→Prop} {D:Dat} {ρ:Rho} {st:St} {a:Act} {w:World} {E:Env} {i d nid:Nat} {g:OG} {eff:Eff}
theorem Sat.turn (h:Sat Γ S W D ρ st a w) {t:Nat} {v':TV} (hv:∀ u,a.tmps[t]?=some u→DenT D ρ W a.tmps v' u) (hin:v'.inS S) (hex:∃ u,a.tmps[t]?=some u):Sat Γ S W D ρ (st.set (.tm t) (.tv v')) a w:=by
 have hl:∀ k,look (st.set (.tm t) (.tv v')).tm k=if t=k then some v' else look st.tm k:=fun k=>look_put _ _ _ _
 refine { h with tm := ?_,hp:=h.hp,inj:=h.inj,sep:=h.sep,own:=h.own,idT := ?_,idH:=h.idH }
 ·intro k v hk
  rw [hl] at hk
  by_cases e:t=k
  ·subst e
   rw [if_pos rfl] at hk
   simp only [Option.some.injEq] at hk
   subst hk
   obtain ⟨u,hu⟩:=hex
   exact ⟨u,hu,hv u hu⟩
  ·rw [if_neg e] at hk;exact h.tm k v hk
 ·intro k v hk
  rw [hl] at hk
  split at hk
  ·simp only [Option.some.injEq] at hk;subst hk;exact hin
  ·exact h.idT k v hk
theorem buildPub_ok (hP:E.P=Γ.P) (hG:E.G=Γ.G) (h:Sat Γ S W D ρ st a w) (hfr:Fresh S nid) (hd:d<Γ.N) (hnd:¬ W d) {t:TypeId} {n:Nat} {ps:Array (Nat×Operand)} {g:OG}
  (hf:(buildPubM E i nid g d t n ps.toList).Ev st.get eff) (hvc:∀ p∈eff.vc,p):g=none∧EffOk Γ S W st a w (some d) nid eff (Instr.buildSlice t n (ps.map fun (i,x)=>(i,a.eval x))):=by
 have gn:∀ {e:Eff},(buildSlM E i nid g d t n ps.toList).Ev st.get e→g=none:=by
  intro e hm
  simp only [buildSlM,ev_bind] at hm
  obtain ⟨_,h1,_⟩:=hm
  cases g with
  | none=>rfl
  | some gd=>simp [pure1,ev_fail] at h1
 unfold buildPubM at hf
 split at hf
 ·exact ⟨gn hf,buildSl_ok hP hG h hfr hd hnd hf⟩
 ·rename_i v' hv'
  simp only [ev_bind] at hf
  obtain ⟨e,he,hf⟩:=hf
  refine ⟨gn he,?_⟩
  obtain ⟨u,w',hrun,D2,ρ2,h2⟩:=buildSl_ok hP hG h hfr hd hnd he
  have hwr:∃ el sz m f,e.wr=[(.bk nid,.bk (.row el sz m f)),(.tm d,.tv (.v (.c (.row sz nid 0 m))))]:=by
   simp only [buildSlM,ev_bind,ev_opt,ev_guard,ev_ret] at he
   obtain ⟨_,hg1,el,hel,sz,hsz,z,hz,_,hb,l,hl,_,_,rfl⟩:=he
   exact ⟨_,_,_,_,rfl⟩
  obtain ⟨el,sz,m,f,hwr⟩:=hwr
  rw [hwr] at hf h2
  simp only [ev_ret] at hf
  subst hf
  have e1:EqvI (.c (.sl sz m f)) v':=hvc _ (by simp)
  have e2:EqvD (.c (.sl sz m f)) v':=hvc _ (by simp)
  have hb:look (st.sets [(.bk nid,.bk (.row el sz m f)),(.tm d,.tv (.v (.c (.row sz nid 0 m))))]).hp nid=some (.row el sz m f):=by
   show look (put st.hp nid _) nid=_
   rw [look_put,if_pos rfl]
  have hda:∃ u,(a.put (some d) u).tmps[d]?=some u:=⟨u,by rw [put_get _ _ _ _ (by rw [h.size];exact hd),if_pos rfl]⟩
  obtain ⟨uu,hdu,hden⟩:=h2.tm d (.v (.c (.row sz nid 0 m))) (by
   show look (put _ d _) d=_
   rw [look_put,if_pos rfl])
  obtain ⟨D3,hle,h3,hpub⟩:=h2.publish hb
  have hden':=hpub uu 0 m oM hden
  simp only [Nat.zero_add] at hden'
  have h4:=h3.turn (t:=d) (v' := .v v') (fun u2 hu2=>by
   rw [hdu] at hu2
   simp only [Option.some.injEq] at hu2
   subst hu2
   exact e2 D3 ρ2 _ (show DenV D3 ρ2 (.c (.sl sz m f)) uu from Den.flat rfl hden')) (e1 _ trivial) ⟨uu,hdu⟩
  refine ⟨u,w',hrun,D3,ρ2,Sat.congr (fun k => ?_) (fun k => ?_) h4⟩
  ·show look (put st.tm d _) k=look (put (put st.tm d _) d _) k
   simp only [look_put]
   split<;>rfl
  ·show look st.hp k=look (del (put st.hp nid _) nid) k
   rw [look_del,look_put]
   split
   ·rename_i hk
    subst hk
    cases hh:look st.hp nid with
    | none=>rfl
    | some b=>exact (hfr nid (Nat.le_refl _) oM (h.idH nid b hh).1).elim
   ·rfl
end
end Go.Sv
end
section
namespace Go.Sv
open M
def mget {α:Type}:List (List UInt8×α)→List UInt8→α→α
 | [],_,z=>z
 | (k,v)::r,s,z=>if s==k then v else mget r s z
def mhas {α:Type}:List (List UInt8×α)→List UInt8→Bool
 | [],_=>false
 | (k,_)::r,s=>if s==k then true else mhas r s
def mset {α:Type}:List (List UInt8×α)→List UInt8→α→List (List UInt8×α)
 | [],s,v=>[(s,v)]
 | (k,w)::r,s,v=>if s==k then (s,v)::r else (k,w)::mset r s v
def mpos {α:Type}:List (List UInt8×α)→List UInt8→Nat→Option (Nat×α)
 | [],_,_=>none
 | (k,v)::r,s,i=>if s==k then some (i,v) else mpos r s (i+1)
def isStrD:TypeDesc→Bool
 | .string=>true
 | _=>false
def mapT (P:Program) (t:TypeId):Option TypeId:=match P.underlying t with
 | some (.map k e)=>match tIs P isStrD k with
  | true=>some e
  | false=>none
 | _=>none
def tZeroV (P:Program) (t:TypeId):Option V1:=match P.info? t with
 | some i=>match i.zero with
  | some z=>cstV z
  | none=>none
 | none=>none
def makeMapM (E:Env) (i nid:Nat) (g:OG) (d:Nat) (t:TypeId) (r:Option Operand):M Eff :=
 match r with
 | none=>bind (pure1 g) fun _=>ret ⟨[(.bk nid,.bk (.ob (.ms []))),(.tm d,.tv (.v (.c (.map nid))))],[]⟩
 | some _=>fail
def strM:V1→M (List UInt8)
 | .c (.str s)=>ret s
 | _=>fail
def msM (id:Nat):M (List (List UInt8×V1)):=bind (rd (.bk id)) fun
 | .bk (.ob (.ms m))=>ret m
 | _=>fail
def asV (E:Env) (i:Nat) (v:V1):V1×List Prop:=match look E.as i with
 | none=>(v,[])
 | some v'=>(v',[EqvI v v',EqvD v v'])
def getM (a:Cell):M (List (List UInt8×V1)):=match a with
 | .nilmap=>ret []
 | .map id=>msM id
 | _=>fail
def lookupM (E:Env) (i:Nat) (g:OG) (d:Nat) (t:TypeId) (x y:Operand) (ok:Bool):M Eff :=
 bind (opdM E g x) fun v=>bind (cellM v) fun a=>bind (opdM E g y) fun v2=>bind (strM v2) fun s=>bind (opt (mapT E.P t)) fun el =>
 bind (opt (tZeroV E.P el)) fun zv=>bind (getM a) fun m =>
 match ok with
 | false=>finM E i g d [] (mget m s zv)
 | true=>bind (pure1 g) fun _=>ret ⟨[(.tm d,.tv (.tup [(asV E i (mget m s zv)).1,.c (.bool (mhas m s))]))],(asV E i (mget m s zv)).2⟩
def mapUpdM (E:Env) (i:Nat) (g:OG) (t:TypeId) (x y z:Operand):M Eff :=
 bind (pure1 g) fun _=>bind (opdM E g x) fun v=>bind (cellM v) fun a=>bind (opdM E g y) fun v2=>bind (strM v2) fun s=>bind (opdM E g z) fun u=>bind (opt (mapT E.P t)) fun el =>
 match a with
 | .map id=>bind (msM id) fun m=>bind (guard (flats u.cells)) fun _=>ret ⟨[(.bk id,.bk (blkOf E i (.ob (.ms (mset m s u)))).1)],(blkOf E i (.ob (.ms (mset m s u)))).2⟩
 | _=>fail
def runeAt (s:List UInt8) (pos:Nat):Int:=(Utf8.decode ⟨s.toArray⟩ pos).1
def runeW (s:List UInt8) (pos:Nat):Nat:=(Utf8.decode ⟨s.toArray⟩ pos).2
def rangeM (E:Env) (nid:Nat) (g:OG) (d:Nat) (t:TypeId) (x:Operand):M Eff :=
 bind (pure1 g) fun _=>bind (opdM E g x) fun v=>match v with
 | .c (.map id)=>bind (msM id) fun m=>bind (opt (mapT E.P t)) fun _=>ret ⟨[(.bk nid,.bk (.ob (.mi id m.length []))),(.tm d,.tv (.v (.c (.ptr nid 0))))],[]⟩
 | v=>bind (strM v) fun s=>bind (guard (tIs E.P isStrD t)) fun _ =>
  ret ⟨[(.bk nid,.bk (.ob (.it s 0))),(.tm d,.tv (.v (.c (.ptr nid 0))))],[]⟩
def nextM (E:Env) (i:Nat) (g:OG) (d:Nat) (x:Operand) (str:Bool):M Eff :=
 bind (pure1 g) fun _=>bind (opdM E g x) fun v=>bind (guard str) fun _=>match v with
 | .c (.ptr id 0)=>bind (rd (.bk id)) fun kv=>match kv with
  | .bk (.ob (.it s pos))=>match look E.grd i with
   | some true=>ret ⟨[(.bk id,.bk (.ob (.it s (pos+runeW s pos)))),(.tm d,.tv (.tup [.c (.bool true),.c (.int .i64 pos),.c (.int .i32 (runeAt s pos))]))],[pos<s.length]⟩
   | some false=>ret ⟨[(.tm d,.tv (.tup [.c (.bool false)]))],[s.length≤pos]⟩
   | none=>fail
  | _=>fail
 | _=>fail
def entryM (E:Env) (g:OG) (d:Nat) (x:Operand):M Eff :=
 bind (pure1 g) fun _=>bind (opdM E g x) fun v=>match v with
 | .c (.ptr id 0)=>bind (rd (.bk id)) fun kv=>match kv with
  | .bk (.ob (.mi mid n (j0::_)))=>bind (msM mid) fun m =>
   ret ⟨[(.tm d,.tv (.tup [.c (.str (m.getD j0 ([],.c .nilif)).1),(m.getD j0 ([],.c .nilif)).2]))],[j0<m.length,n=m.length]⟩
  | _=>fail
 | _=>fail
def ifcV (sh:Option Nat) (c:Nat→Cell):V1:=match sh with
 | none => .c (c 0)
 | some m => .agg (upL c 0 m)
def isConcT (P:Program) (t:TypeId):Bool:=match P.underlying t with
 | some (.interface _)=>false
 | some _=>true
 | none=>false
def typeAsM (E:Env) (g:OG) (d:Nat) (x:Operand) (at_:TypeId) (ok:Bool):M Eff :=
 bind (pure1 g) fun _=>bind (guard ok) fun _=>bind (guard (isConcT E.P at_)) fun _=>bind (opdM E g x) fun v=>match v with
 | .c .nilif=>bind (opt (tZeroV E.P at_)) fun z=>ret ⟨[(.tm d,.tv (.tup [z,.c (.bool false)]))],[]⟩
 | .c (.ifc t sh c)=>match Nat.beq t at_ with
  | true=>ret ⟨[(.tm d,.tv (.tup [ifcV sh c,.c (.bool true)]))],[]⟩
  | false=>bind (opt (tZeroV E.P at_)) fun z=>ret ⟨[(.tm d,.tv (.tup [z,.c (.bool false)]))],[]⟩
 | _=>fail
def byteOf:Cell→UInt8
 | .int _ n=>UInt8.ofNat n.toNat
 | _=>0
def byteL (f:Nat→Nat→Cell) (off n:Nat):List UInt8:=(List.range n).map fun i=>byteOf (f (off+i) 0)
def areBytes (f:Nat→Nat→Cell) (off n:Nat):Prop:=∀ i,i<n→f (off+i) 0 = .int .u8 ((byteOf (f (off+i) 0)).toNat:Int)
def slDataM (E:Env) (i:Nat) (g:OG) (d:Nat) (x:Operand):M Eff :=
 bind (opdM E g x) fun v=>match v with
 | .c (.row sz id off n)=>finM E i g d [under g (0<n)] (.c (.rp sz id off 0))
 | .c .nilsl=>finM E i g d [] (.c .nilptr)
 | _=>fail
def tPtr (P:Program) (t:TypeId):Option TypeId:=match P.underlying t with
 | some (.pointer e)=>some e
 | _=>none
def unStrM (E:Env) (i:Nat) (g:OG) (d:Nat) (t:TypeId) (x y:Operand):M Eff :=
 bind (pure1 g) fun _=>bind (opdM E g x) fun v=>bind (opdM E g y) fun w=>bind (intM w) fun n=>match v with
 | .c (.rp sz id 0 0)=>bind (rowM id) fun r=>bind (opt (tPtr E.P t)) fun el =>
   bind (guard (bAnd (Nat.beq r.1 el) (bAnd (Nat.beq r.2.1 1) (bAnd (kEq n.1 .i64) (Nat.beq (E.P.cellsOf el) 1))))) fun _ =>
   ret ⟨[(.bk id,.gone),(.tm d,.tv (.v (asV E i (.c (.str (byteL r.2.2.2 0 n.2.toNat)))).1))],
    (0<n.2)::(n.2.toNat≤r.2.2.1)::(n.2≤9223372036854775807)::areBytes r.2.2.2 0 n.2.toNat::(asV E i (.c (.str (byteL r.2.2.2 0 n.2.toNat)))).2⟩
 | .c .nilptr=>ret ⟨[(.tm d,.tv (.v (.c (.str []))))],[n.2=0]⟩
 | _=>fail
section
variable {Γ:Ctx} {S W:Nat→Prop} {D:Dat} {ρ:Rho} {st:St} {a:Act} {w:World} {E:Env} {i d nid:Nat} {g:OG} {eff:Eff}
theorem p1_none {u:Unit} {L:Key→Option KV} (h:(pure1 g).Ev L u):g=none:=by
 cases g with
 | none=>rfl
 | some gd=>simp [pure1,ev_fail] at h
theorem exn {a:Act}:Exec none a:=by intro gd e;cases e
theorem gdn {a:Act}:GdOk W none a:=by intro gd e;cases e
theorem str_ev {v:V1} {s:List UInt8} {L:Key→Option KV} (h:(strM v).Ev L s):v = .c (.str s):=by
 unfold strM at h
 split at h
 ·simp only [ev_ret] at h;rw [h]
 ·simp [ev_fail] at h
theorem ms_ev {id:Nat} {m:List (List UInt8×V1)} (h:(msM id).Ev st.get m):look st.hp id=some (.ob (.ms m)):=by
 simp only [msM,ev_bind,ev_rd] at h
 obtain ⟨kv,hk,hl⟩:=h
 obtain ⟨b,rfl,hb⟩:=get_bk hk
 split at hl
 ·rename_i m' e
  simp only [KV.bk.injEq] at e
  simp only [ev_ret] at hl
  rw [hb,e,hl]
 ·simp [ev_fail] at hl
theorem mapT_run {P:Program} {t el:TypeId} (h:mapT P t=some el):∃ k,P.underlying t=some (.map k el)∧P.underlying k=some .string:=by
 unfold mapT at h
 split at h
 ·rename_i k e hu
  split at h
  ·rename_i ht
   simp only [Option.some.injEq] at h
   subst h
   obtain ⟨dd,h1,h2⟩:=tIs_run ht
   cases dd<;>simp [isStrD] at h2
   exact ⟨k,hu,h1⟩
  ·cases h
 ·cases h
theorem bytes_beq (a b:List UInt8):((⟨a.toArray⟩:ByteArray)==⟨b.toArray⟩)=(a==b):=by rw [beq_toListBytes,toList_mk,toList_mk]
def EsOk (D:Dat) (m:List (List UInt8×V1)) (es:List MapEntry) (n:Nat):Prop :=
 es.length=m.length∧∀ (j:Nat) (k:List UInt8) (v:V1),m[j]?=some (k,v)→∃ e,es[j]?=some e∧e.key = .string ⟨k.toArray⟩∧FlatV D v e.val∧e.born=n+j
theorem EsOk.cons {D:Dat} {k:List UInt8} {v:V1} {m:List (List UInt8×V1)} {es:List MapEntry} {n:Nat} (h:EsOk D ((k,v)::m) es n) :
  ∃ e r,es=e::r∧e.key = .string ⟨k.toArray⟩∧FlatV D v e.val∧e.born=n∧EsOk D m r (n+1):=by
 obtain ⟨hl,hx⟩:=h
 cases es with
 | nil=>simp at hl
 | cons e r =>
  obtain ⟨e',h1,h2,h3,h4⟩:=hx 0 k v (by simp)
  simp only [List.getElem?_cons_zero,Option.some.injEq] at h1
  subst h1
  refine ⟨e,r,rfl,h2,h3,by simpa using h4,by simpa using hl,fun j k v hj => ?_⟩
  obtain ⟨e',h1,h2,h3,h4⟩:=hx (j+1) k v (by simpa using hj)
  exact ⟨e',by simpa using h1,h2,h3,by omega⟩
theorem EsOk.mk {D:Dat} {k:List UInt8} {v:V1} {m:List (List UInt8×V1)} {e:MapEntry} {r:List MapEntry} {n:Nat} (h1:e.key = .string ⟨k.toArray⟩) (h2:FlatV D v e.val) (h3:e.born=n) (h:EsOk D m r (n+1)) :
  EsOk D ((k,v)::m) (e::r) n:=by
 refine ⟨by simp [h.1],fun j k' v' hj => ?_⟩
 cases j with
 | zero =>
  simp only [List.getElem?_cons_zero,Option.some.injEq,Prod.mk.injEq] at hj
  obtain ⟨rfl,rfl⟩:=hj
  exact ⟨e,by simp,h1,h2,by omega⟩
 | succ j =>
  obtain ⟨e',q1,q2,q3,q4⟩:=h.2 j k' v' (by simpa using hj)
  exact ⟨e',by simpa using q1,q2,q3,by omega⟩
theorem findNow_run {D:Dat} (s:List UInt8):∀ (m:List (List UInt8×V1)) (es:List MapEntry) (n i:Nat),EsOk D m es n →
  (mpos m s i=none→Instr.findNow .string (.string ⟨s.toArray⟩) es i=some none) ∧
  (∀ j v,mpos m s i=some (j,v)→∃ u,Instr.findNow .string (.string ⟨s.toArray⟩) es i=some (some (j,u))∧FlatV D v u)
 | [],es,n,i,h=>by
  have:es=[]:=List.length_eq_zero_iff.1 h.1
  subst this
  simp [mpos,Instr.findNow]
 | (k,v)::m,es,n,i,h=>by
  obtain ⟨e,r,rfl,h1,h2,h3,h4⟩:=h.cons
  have ih:=findNow_run s m r (n+1) (i+1) h4
  simp only [mpos,Instr.findNow,h1,Instr.sameNow,bytes_beq]
  cases hb:s==k with
  | true=>simp; exact h2
  | false=>simpa using ih
theorem mpos_get {α:Type} (s:List UInt8) (z:α):∀ (m:List (List UInt8×α)) (i:Nat),(mpos m s i=none→mget m s z=z∧mhas m s=false)∧∀ j v,mpos m s i=some (j,v)→mget m s z=v∧mhas m s=true
 | [],i=>by simp [mpos,mget,mhas]
 | (k,v)::m,i=>by
  have ih:=mpos_get s z m (i+1)
  simp only [mpos,mget,mhas]
  cases hb:s==k with
  | true=>simp
  | false=>simpa using ih
theorem mset_none {D:Dat} (s:List UInt8) {v:V1} {u:Value} (hd:FlatV D v u):∀ (m:List (List UInt8×V1)) (es:List MapEntry) (n i:Nat),EsOk D m es n→mpos m s i=none →
  EsOk D (mset m s v) (es++[{ key := .string ⟨s.toArray⟩,val:=u,born:=n+es.length }]) n
 | [],es,n,i,h,_=>by
  have:es=[]:=List.length_eq_zero_iff.1 h.1
  subst this
  exact EsOk.mk rfl hd (by simp) ⟨by simp,fun j k v hj=>by simp at hj⟩
 | (k,x)::m,es,n,i,h,hp=>by
  obtain ⟨e,r,rfl,h1,h2,h3,h4⟩:=h.cons
  simp only [mpos] at hp
  cases hb:s==k with
  | true=>simp [hb] at hp
  | false =>
   simp only [hb,Bool.false_eq_true,if_false] at hp
   simp only [mset,hb,Bool.false_eq_true,if_false,List.cons_append,List.length_cons]
   have:=mset_none s hd m r (n+1) (i+1) h4 hp
   refine EsOk.mk h1 h2 h3 ?_
   rw [show n+(r.length+1)=n+1+r.length from by omega]
   exact this
theorem mset_some {D:Dat} (s:List UInt8) {v:V1} {u:Value} (hd:FlatV D v u):∀ (m:List (List UInt8×V1)) (es:List MapEntry) (n i j:Nat) (x:V1),EsOk D m es n→mpos m s i=some (j,x) →
  i≤j∧(es[j-i]?).map (·.key)=some (.string ⟨s.toArray⟩)∧EsOk D (mset m s v) (es.modify (j-i) fun e=>{ e with key := .string ⟨s.toArray⟩,val:=u }) n
 | [],es,n,i,j,x,h,hp=>by simp [mpos] at hp
 | (k,y)::m,es,n,i,j,x,h,hp=>by
  obtain ⟨e,r,rfl,h1,h2,h3,h4⟩:=h.cons
  simp only [mpos] at hp
  cases hb:s==k with
  | true =>
   simp only [hb,if_true,Option.some.injEq,Prod.mk.injEq] at hp
   obtain ⟨rfl,rfl⟩:=hp
   have hk:s=k:=by simpa using hb
   subst hk
   refine ⟨Nat.le_refl _,by simp [h1],?_⟩
   simp only [mset,hb,if_true,Nat.sub_self,List.modify_cons]
   exact EsOk.mk rfl hd h3 h4
  | false =>
   simp only [hb,Bool.false_eq_true,if_false] at hp
   obtain ⟨q1,q2,q3⟩:=mset_some s hd m r (n+1) (i+1) j x h4 hp
   have e1:j-i=(j-(i+1))+1:=by omega
   refine ⟨by omega,by rw [e1];simpa using q2,?_⟩
   rw [e1]
   simp only [mset,hb,Bool.false_eq_true,if_false,List.modify_cons]
   exact EsOk.mk h1 h2 h3 q3
theorem es_of {D:Dat} {ρ:Rho} {m:List (List UInt8×V1)} {o:Obj} (h:ObDen D ρ (.ms m) o):∃ es:Array MapEntry,o = .map es es.size∧EsOk D m es.toList 0:=by
 obtain ⟨es,e,h1,h2⟩:=h
 refine ⟨es,e,by simpa using h1,fun j k v hj => ?_⟩
 obtain ⟨x,q1,q2,q3,q4⟩:=h2 j k v hj
 exact ⟨x,by simpa using q1,q2,q3,by omega⟩
theorem of_es {D:Dat} {ρ:Rho} {m:List (List UInt8×V1)} {es:Array MapEntry} (h:EsOk D m es.toList 0):ObDen D ρ (.ms m) (.map es es.size):=by
 obtain ⟨h1,h2⟩:=h
 refine ⟨es,rfl,by simpa using h1,fun j k v hj => ?_⟩
 obtain ⟨x,q1,q2,q3,q4⟩:=h2 j k v hj
 exact ⟨x,by simpa using q1,q2,q3,by omega⟩
theorem findKey_run {P:Program} {k:TypeId} (hk:P.underlying k=some .string) {x:Value} {es:List MapEntry} {r:Option (Nat×Value)} (h:Instr.findNow .string x es 0=some r) (w:World):(Instr.findKey k x es).run P w = .ok r w:=by
 simp only [Instr.findKey,Sem.run_bind,under_run hk,Result.andThen_ok,h,Sem.run_pure]
theorem checkKey_run {P:Program} {k:TypeId} (hk:P.underlying k=some .string) (em:Bool) (s:ByteArray) (w:World):(Instr.checkKey em 10000 k (.string s)).run P w = .ok () w:=by
 show (Instr.checkKey em (9999+1) k (.string s)).run P w=_
 generalize 9999=n
 simp [Instr.checkKey,under_run hk]
theorem zeroV_run {P:Program} {t:TypeId} {v:V1} (h:tZeroV P t=some v) (D:Dat) (ρ:Rho) (w:World):∃ u,(zeroValue t).run P w = .ok u w∧DenV D ρ v u∧∀ S,v.inS S:=by
 unfold tZeroV at h
 split at h
 ·rename_i i hi
  split at h
  ·rename_i z hz
   exact ⟨z,by simp [zeroValue,typeInfo,hi,hz],cstV_den h D ρ,cstV_inS h⟩
  ·cases h
 ·cases h
theorem map_obj (h:Sat Γ S W D ρ st a w) {id:Nat} {m:List (List UInt8×V1)} (hb:look st.hp id=some (.ob (.ms m))):(ρ id).2≠0∧∃ es:Array MapEntry,w.heap[(ρ id).1]?=some (.map es es.size)∧EsOk D m es.toList 0:=by
 obtain ⟨h0,x,hx,hd⟩:=h.hp id _ hb
 obtain ⟨es,rfl,he⟩:=es_of hd
 exact ⟨h0,es,hx,he⟩
def notCells:Obj→Prop
 | .cells _ _ _=>False
 | _=>True
theorem getObj_run {P:Program} {w:World} {b:Nat} {o:Obj} (h:w.heap[b]?=some o) (hn:notCells o):(getObj b).run P w = .ok o w:=by
 cases o<;>first | exact hn.elim | simp [getObj,Sem.run,h]
theorem setObj_run {P:Program} {w:World} {b:Nat} {o o':Obj} (h:w.heap[b]?=some o) (hn:notCells o) :
  (setObj b o').run P w = .ok () { w with heap:=w.heap.setIfInBounds b o' }∧OneOff w { w with heap:=w.heap.setIfInBounds b o' } b o':=by
 have hlt:b<w.heap.size:=by
  rcases Nat.lt_or_ge b w.heap.size with h' | h'
  ·exact h'
  ·simp [Array.getElem?_eq_none h'] at h
 refine ⟨?_,⟨?_,fun k hk => ?_,?_,rfl,rfl,rfl,Nat.le_refl _⟩⟩
 ·cases o<;>first | exact hn.elim | simp [setObj,Sem.run,h]
 ·show (w.heap.setIfInBounds b o')[b]?=_
  rw [Array.getElem?_setIfInBounds,if_pos rfl,if_pos hlt]
 ·show (w.heap.setIfInBounds b o')[k]?=_
  rw [Array.getElem?_setIfInBounds,if_neg (Ne.symm hk)]
 ·simp
theorem Sat.newOb (h:Sat Γ S W D ρ st a w) (hf:Fresh S nid) {o:Ob} {x:Obj} (hd:ObDen D (rhoSet ρ nid (w.heap.size,1)) o x) (hin:o.inS S) :
  Sat Γ (sPlus S nid) W D (rhoSet ρ nid (w.heap.size,1)) (st.set (.bk nid) (.bk (.ob o))) a { w with heap:=w.heap.push x }:=by
 have hrn:rhoSet ρ nid (w.heap.size,1) nid=(w.heap.size,1):=by simp [rhoSet]
 exact h.new hf (b := .ob o) ⟨by rw [hrn];simp,x,by rw [hrn];exact push_new _ _,hd⟩ hin
theorem makeMap_ok (h:Sat Γ S W D ρ st a w) (hfr:Fresh S nid) (hd:d<Γ.N) (hnd:¬ W d) {t:TypeId} {r:Option Operand}
  (hf:(makeMapM E i nid g d t r).Ev st.get eff):g=none∧EffOk Γ S W st a w (some d) nid eff (Instr.makeMap t (r.map a.eval)):=by
 unfold makeMapM at hf
 split at hf
 ·simp only [ev_bind,ev_ret] at hf
  obtain ⟨_,hg,rfl⟩:=hf
  refine ⟨p1_none hg,.map (some w.heap.size),{ w with heap:=w.heap.push (.map #[] 0) },rfl,D,rhoSet ρ nid (w.heap.size,1),?_⟩
  refine (h.newOb hfr (o := .ms []) ⟨#[],rfl,rfl,fun j k v hj=>by simp at hj⟩ trivial).put (W':=fun t=>W t∨some d=some t) hd hnd (fun t ht => .inl ht) ?_ ?_
  ·simp [DenT,DenV,Den,rhoSet]
  ·exact .inr ⟨Nat.le_refl _,by omega⟩
 ·simp [ev_fail] at hf
theorem mget_run {D:Dat} {m:List (List UInt8×V1)} {es:List MapEntry} (he:EsOk D m es 0) {P:Program} {k:TypeId} (hk:P.underlying k=some .string) (s:List UInt8) {zv:V1} {zu:Value}
  (w:World) (hz:FlatV D zv zu):∃ r,(Instr.findKey k (.string ⟨s.toArray⟩) es).run P w = .ok r w∧((r=none∧mhas m s=false∧FlatV D (mget m s zv) zu)∨∃ j u,r=some (j,u)∧mhas m s=true∧FlatV D (mget m s zv) u):=by
 obtain ⟨f1,f2⟩:=findNow_run s m es 0 0 he
 obtain ⟨g1,g2⟩:=mpos_get s zv m 0
 cases hp:mpos m s 0 with
 | none =>
  obtain ⟨q1,q2⟩:=g1 hp
  exact ⟨_,findKey_run hk (f1 hp) w,.inl ⟨rfl,q2,by rw [q1];exact hz⟩⟩
 | some r =>
  obtain ⟨j,v⟩:=r
  obtain ⟨q1,q2⟩:=g2 j v hp
  obtain ⟨u,hf,hd⟩:=f2 j v hp
  exact ⟨_,findKey_run hk hf w,.inr ⟨j,u,rfl,q2,by rw [q1];exact hd⟩⟩
theorem get_ok (h:Sat Γ S W D ρ st a w) {c:Cell} {m:List (List UInt8×V1)} (hm:(getM c).Ev st.get m) {v:Value} (hv:Den D ρ c v) {t el:TypeId} (ht:mapT Γ.P t=some el) {s:List UInt8} {zv:V1} (hz:tZeroV Γ.P el=some zv) (ok:Bool) :
  ∃ u,FlatV D (mget m s zv) u∧(Instr.lookup t v (.string ⟨s.toArray⟩) ok).run Γ.P w = .ok (if ok then .tuple #[u,.bool (mhas m s)] else u) w:=by
 obtain ⟨k,hu,hk⟩:=mapT_run ht
 have hzz:∃ zu,(zeroValue el).run Γ.P w = .ok zu w∧FlatV D zv zu:=by
  obtain ⟨zu,hzr,_,hin⟩:=zeroV_run hz D ρ w
  refine ⟨zu,hzr,fun ρ' => ?_,hin⟩
  obtain ⟨zu',hzr',hd',_⟩:=zeroV_run hz D ρ' w
  rw [hzr] at hzr'
  simp only [Result.ok.injEq] at hzr'
  rw [hzr'.1];exact hd'
 obtain ⟨zu,hzr,hzd⟩:=hzz
 unfold getM at hm
 split at hm
 ·simp only [ev_ret] at hm
  subst hm
  have hv:v = .map none:=hv
  subst hv
  obtain ⟨r,hr,hc⟩:=mget_run (D:=D) (m:=[]) (es:=[]) ⟨rfl,fun j k v hj=>by simp at hj⟩ hk s w hzd
  rcases hc with ⟨rfl,h1,h2⟩ | ⟨j,u,rfl,h1,h2⟩
  ·refine ⟨zu,h2,?_⟩
   cases ok<;>simp [Instr.lookup,under_run hu,checkKey_run hk,hr,hzr,h1]
  ·simp [mhas] at h1
 ·rename_i id
  have hv:v = .map (some (ρ id).1):=hv
  subst hv
  obtain ⟨_,es,hb,he⟩:=map_obj h (ms_ev hm)
  obtain ⟨r,hr,hc⟩:=mget_run he hk s w hzd
  rcases hc with ⟨rfl,h1,h2⟩ | ⟨j,u,rfl,h1,h2⟩
  ·refine ⟨zu,h2,?_⟩
   cases ok<;>simp [Instr.lookup,under_run hu,checkKey_run hk,getObj_run hb trivial,hr,hzr,h1]
  ·refine ⟨u,h2,?_⟩
   cases ok<;>simp [Instr.lookup,under_run hu,checkKey_run hk,getObj_run hb trivial,hr,h1]
 ·simp [ev_fail] at hm
theorem asV_ok {v:V1} (hvc:∀ p∈(asV E i v).2,p):EqvI v (asV E i v).1∧EqvD v (asV E i v).1:=by
 unfold asV at hvc ⊢
 split at hvc
 ·exact ⟨fun _ h=>h,fun _ _ _ h=>h⟩
 ·exact ⟨hvc _ (by simp),hvc _ (by simp)⟩
theorem lookup_ok (hP:E.P=Γ.P) (hG:E.G=Γ.G) (h:Sat Γ S W D ρ st a w) (hg:GdOk W g a) (hd:d<Γ.N) (hnd:¬ W d) {t:TypeId} {x y:Operand} {ok:Bool}
  (hf:(lookupM E i g d t x y ok).Ev st.get eff) (hvc:∀ p∈eff.vc,p):PureOk Γ S W D ρ st a w g d eff (Instr.lookup t (a.eval x) (a.eval y) ok):=by
 simp only [lookupM,ev_bind,ev_opt] at hf
 obtain ⟨v,hv,c,hc,v2,hv2,s,hs,el,hel,zv,hz,m,hm,hf⟩:=hf
 have hc:=cell_ev hc
 subst hc
 have hs:=str_ev hs
 subst hs
 rw [hP] at hel hz
 have q:Exec g a→∃ u,FlatV D (mget m s zv) u∧(Instr.lookup t (a.eval x) (a.eval y) ok).run Γ.P w = .ok (if ok then .tuple #[u,.bool (mhas m s)] else u) w:=by
  intro he
  have h1:Den D ρ c (a.eval x):=opd_den hG h hg he hv
  have h2:a.eval y = .string ⟨s.toArray⟩:=opd_den hG h hg he hv2
  rw [h2]
  exact get_ok h hm h1 hel hz ok
 have hin:(mget m s zv).inS S:=by
  have hzi:zv.inS S:=by
   obtain ⟨_,_,_,hzi⟩:=zeroV_run hz D ρ w
   exact hzi S
  have hmi:∀ (m:List (List UInt8×V1)) es n,EsOk D m es n→(mget m s zv).inS S:=by
   intro m
   induction m with
   | nil=>intro es n _; exact hzi
   | cons p r ih =>
    intro es n he
    obtain ⟨k,v⟩:=p
    obtain ⟨e,r',rfl,h1,h2,h3,h4⟩:=he.cons
    simp only [mget]
    split
    ·exact h2.2 S
    ·exact ih _ _ h4
  unfold getM at hm
  split at hm
  ·simp only [ev_ret] at hm;subst hm;exact hzi
  ·obtain ⟨_,es,_,he⟩:=map_obj h (ms_ev hm);exact hmi _ _ _ he
  ·simp [ev_fail] at hm
 cases ok with
 | false =>
  refine fin_ok h hg hd hnd hf hvc hin (fun he hvs => ?_)
  obtain ⟨u,h1,h2⟩:=q he
  exact ⟨u,h2,h1.1 ρ⟩
 | true =>
  simp only [ev_bind,ev_ret] at hf
  obtain ⟨_,hg1,rfl⟩:=hf
  have hg0:=p1_none hg1
  subst hg0
  obtain ⟨e1,e2⟩:=asV_ok (E:=E) (i:=i) (v:=mget m s zv) hvc
  refine ⟨fun he => ?_,fun he=>(he exn).elim⟩
  obtain ⟨u,h1,h2⟩:=q he
  refine ⟨_,h2,h.put hd hnd (fun t ht => .inl ht) ?_ ?_⟩
  ·refine ⟨#[u,.bool (mhas m s)],rfl,rfl,fun j x hj => ?_⟩
   match j,hj with
   | 0,hj=>simp only [List.getElem?_cons_zero,Option.some.injEq] at hj; subst hj; exact ⟨u,by simp,e2 _ _ _ (h1.1 ρ)⟩
   | 1,hj=>simp at hj; subst hj; exact ⟨.bool (mhas m s),by simp,rfl⟩
   | j+2,hj=>simp at hj
  ·intro j x hj
   match j,hj with
   | 0,hj=>simp only [List.getElem?_cons_zero,Option.some.injEq] at hj; subst hj; exact e1 _ hin
   | 1,hj=>simp at hj; subst hj; trivial
   | j+2,hj=>simp at hj
theorem flats_inS {l:List Cell} (h:flats l=true) (S:Nat→Prop):∀ (j:Nat) (x:Cell),l[j]?=some x→x.inS S:=fun j x hj=>Cell.inS_flat (flats_get h hj)
theorem flatV_of {v:V1} {u:Value} (hf:flats v.cells=true) (hd:DenV D ρ v u):FlatV D v u:=by
 cases v with
 | c x =>
  have hx:x.flat=true:=flats_get (l:=[x]) hf (j:=0) (by simp)
  exact ⟨fun ρ'=>Den.flat hx hd,fun S=>Cell.inS_flat hx⟩
 | agg l =>
  obtain ⟨us,e,hs,hx⟩:=hd
  exact ⟨fun ρ'=>⟨us,e,hs,fun j x hj=>let ⟨u,hu,hd⟩:=hx j x hj;⟨u,hu,Den.flat (flats_get hf hj) hd⟩⟩,fun S=>flats_inS hf S⟩
theorem sameBits_str (s:ByteArray):Instr.sameBits 10000 (.string s) (.string s)=true:=by
 show Instr.sameBits (9999+1) (.string s) (.string s)=true
 generalize 9999=n
 simp only [Instr.sameBits]
 rw [beq_toListBytes]
 simp
theorem mapUpd_ok (hP:E.P=Γ.P) (hG:E.G=Γ.G) (h:Sat Γ S W D ρ st a w) {t:TypeId} {x y z:Operand}
  (hf:(mapUpdM E i g t x y z).Ev st.get eff) (hvc:∀ p∈eff.vc,p) :
  g=none∧∃ w',(Instr.mapUpdate t (a.eval x) (a.eval y) (a.eval z)).run Γ.P w = .ok () w'∧Sat Γ S W D ρ (st.sets eff.wr) a w':=by
 simp only [mapUpdM,ev_bind,ev_opt] at hf
 obtain ⟨_,hg1,v,hv,c,hc,v2,hv2,s,hs,vz,hvz,el,hel,hf⟩:=hf
 have hg0:=p1_none hg1
 subst hg0
 refine ⟨rfl,?_⟩
 have hc:=cell_ev hc
 subst hc
 have hs:=str_ev hs
 subst hs
 rw [hP] at hel
 obtain ⟨k,hu,hk⟩:=mapT_run hel
 split at hf
 ·rename_i id
  simp only [ev_bind,ev_guard,ev_ret] at hf
  obtain ⟨m,hm,_,hfl,rfl⟩:=hf
  have h1:a.eval x = .map (some (ρ id).1):=opd_den hG h gdn exn hv
  have h2:a.eval y = .string ⟨s.toArray⟩:=opd_den hG h gdn exn hv2
  have h3:=flatV_of hfl (opd_den hG h gdn exn hvz)
  have hbk:=ms_ev hm
  obtain ⟨h0,es,hb,he⟩:=map_obj h hbk
  obtain ⟨k1,k2⟩:=blkOf_sat hvc
  obtain ⟨f1,f2⟩:=findNow_run s m es.toList 0 0 he
  have fin:∀ (o:Obj),ObDen D ρ (.ms (mset m s vz)) o→Sat Γ S W D ρ (st.sets [(.bk id,.bk (blkOf E i (.ob (.ms (mset m s vz)))).1)]) a { w with heap:=w.heap.setIfInBounds (ρ id).1 o }:=by
   intro o ho
   have hone:=(setObj_run (P:=Γ.P) hb trivial (o':=o)).2
   refine h.upd hbk h0 hone (k1 _ _ _ _ ⟨h0,o,hone.at_,ho⟩) (k2 S trivial)
  rw [h1,h2]
  cases hp:mpos m s 0 with
  | none =>
   refine ⟨_,?_,fin _ (of_es (es:=es.push { key := .string ⟨s.toArray⟩,val:=a.eval z,born:=es.size }) ?_)⟩
   ·simp only [Instr.mapUpdate,Sem.run_bind,under_run hu,Result.andThen_ok,getObj_run hb trivial,checkKey_run hk,findKey_run hk (f1 hp)]
    rw [(setObj_run (P:=Γ.P) hb trivial).1]
    simp
   ·have:=mset_none s h3 m es.toList 0 0 he hp
    simpa using this
  | some r =>
   obtain ⟨j,v0⟩:=r
   obtain ⟨u0,hfn,_⟩:=f2 j v0 hp
   obtain ⟨q1,q2,q3⟩:=mset_some s h3 m es.toList 0 0 j v0 he hp
   rw [Nat.sub_zero] at q2 q3
   have q2':(es[j]?).map (·.key)=some (.string ⟨s.toArray⟩):=by simpa using q2
   refine ⟨_,?_,fin _ (of_es (es:=es.modify j fun e=>{ e with key := .string ⟨s.toArray⟩,val:=a.eval z }) ?_)⟩
   ·simp only [Instr.mapUpdate,Sem.run_bind,under_run hu,Result.andThen_ok,getObj_run hb trivial,checkKey_run hk,findKey_run hk hfn,q2',Option.getD_some,Instr.keyThatStays,sameBits_str,if_true,Sem.run_pure]
    rw [(setObj_run (P:=Γ.P) hb trivial).1]
    simp
   ·simpa using q3
 ·simp [ev_fail] at hf
theorem range_ok (hP:E.P=Γ.P) (hG:E.G=Γ.G) (h:Sat Γ S W D ρ st a w) (hfr:Fresh S nid) (hd:d<Γ.N) (hnd:¬ W d) {t:TypeId} {x:Operand}
  (hf:(rangeM E nid g d t x).Ev st.get eff):g=none∧EffOk Γ S W st a w (some d) nid eff (Instr.range t (a.eval x)):=by
 simp only [rangeM,ev_bind] at hf
 obtain ⟨_,hg1,v,hv,hf⟩:=hf
 have hg0:=p1_none hg1
 subst hg0
 refine ⟨rfl,?_⟩
 split at hf
 ·rename_i id
  simp only [ev_bind,ev_opt,ev_ret] at hf
  obtain ⟨m,hm,el,hel,rfl⟩:=hf
  rw [hP] at hel
  obtain ⟨k,hu,hk⟩:=mapT_run hel
  have hx:a.eval x = .map (some (ρ id).1):=opd_den hG h gdn exn hv
  have hbk:=ms_ev hm
  obtain ⟨h0,es,hb,he⟩:=map_obj h hbk
  have hSid:=(h.idH id _ hbk).1
  have hne:nid≠id:=fun e=>hfr nid (Nat.le_refl _) oM (e▸hSid)
  have hlen:es.size=m.length:=by simpa using he.1
  refine ⟨.pointer (some ⟨w.heap.size,0,none⟩),{ w with heap:=w.heap.push (.mapIter (some (ρ id).1) m.length #[] m.length) },?_,D,rhoSet ρ nid (w.heap.size,1),?_⟩
  ·rw [hx]
   simp only [Instr.range,Sem.run_bind,under_run hu,Result.andThen_ok,getObj_run hb trivial,Sem.run_pure,hlen]
   rfl
  ·refine (h.newOb hfr (o := .mi id m.length []) ?_ hSid).put (W':=fun t=>W t∨some d=some t) hd hnd (fun t ht => .inl ht) ?_ ?_
   ·simp [ObDen,rhoSet,Ne.symm hne]
   ·simp [DenT,DenV,Den,rhoSet]
   ·exact .inr ⟨Nat.le_refl _,by omega⟩
 ·simp only [ev_bind,ev_guard,ev_ret] at hf
  obtain ⟨s,hs,_,ht,rfl⟩:=hf
  have hs:=str_ev hs
  subst hs
  rw [hP] at ht
  obtain ⟨dd,h1,h2⟩:=tIs_run ht
  have hu:Γ.P.underlying t=some .string:=by cases dd<;>simp [isStrD] at h2;exact h1
  have hx:a.eval x = .string ⟨s.toArray⟩:=opd_den hG h gdn exn hv
  refine ⟨.pointer (some ⟨w.heap.size,0,none⟩),{ w with heap:=w.heap.push (.stringIter ⟨s.toArray⟩ 0) },?_,D,rhoSet ρ nid (w.heap.size,1),?_⟩
  ·rw [hx]
   simp only [Instr.range,Sem.run_bind,under_run hu,Result.andThen_ok,Sem.run_pure]
   rfl
  ·refine (h.newOb hfr (o := .it s 0) rfl trivial).put (W':=fun t=>W t∨some d=some t) hd hnd (fun t ht => .inl ht) ?_ ?_
   ·simp [DenT,DenV,Den,rhoSet]
   ·exact .inr ⟨Nat.le_refl _,by omega⟩
theorem next_ok (hP:E.P=Γ.P) (hG:E.G=Γ.G) (h:Sat Γ S W D ρ st a w) (hd:d<Γ.N) (hnd:¬ W d) {x:Operand} {str:Bool} {ty:TypeId}
  (hf:(nextM E i g d x str).Ev st.get eff) (hvc:∀ p∈eff.vc,p):g=none∧EffOk Γ S W st a w (some d) nid eff (Instr.next (a.eval x) str ty):=by
 simp only [nextM,ev_bind,ev_guard] at hf
 obtain ⟨_,hg1,v,hv,_,hstr,hf⟩:=hf
 have hg0:=p1_none hg1
 subst hg0
 subst hstr
 refine ⟨rfl,?_⟩
 split at hf
 ·rename_i id
  have hx:a.eval x = .pointer (some ⟨(ρ id).1,0,none⟩):=opd_den hG h gdn exn hv
  simp only [ev_bind,ev_rd] at hf
  obtain ⟨kv,hk,hf⟩:=hf
  split at hf
  ·rename_i s pos
   obtain ⟨b,e,hb⟩:=get_bk hk
   simp only [KV.bk.injEq] at e
   subst e
   obtain ⟨h0,o,hbo,ho⟩:=h.hp id _ hb
   have ho:o = .stringIter ⟨s.toArray⟩ pos:=ho
   subst ho
   have hsz:(⟨s.toArray⟩:ByteArray).size=s.length:=size_mk s
   split at hf
   ·simp only [ev_ret] at hf
    subst hf
    have hlt:pos<s.length:=hvc _ (by simp)
    have hone:=(setObj_run (P:=Γ.P) hbo trivial (o' := .stringIter ⟨s.toArray⟩ (pos+runeW s pos)))
    have hs:=h.upd hb h0 hone.2 (b' := .ob (.it s (pos+runeW s pos))) ⟨h0,_,hone.2.at_,rfl⟩ trivial
    have hp:=(hs.mono (S':=sPlus S nid) (W':=W) (fun _ h => .inl h) (fun _ h=>h)).put (W':=fun t=>W t∨some d=some t) hd hnd (fun t ht => .inl ht) (u := .tuple #[.bool true,.int .i64 pos,.int .i32 (runeAt s pos)])
     (v := .tup [.c (.bool true),.c (.int .i64 pos),.c (.int .i32 (runeAt s pos))]) ⟨_,rfl,rfl,fun j x hj=>by
      match j,hj with
      | 0,hj=>simp at hj; subst hj; exact ⟨_,rfl,rfl⟩
      | 1,hj=>simp at hj; subst hj; exact ⟨_,rfl,rfl⟩
      | 2,hj=>simp at hj; subst hj; exact ⟨_,rfl,rfl⟩
      | j+3,hj=>simp at hj⟩ (fun j x hj=>by
      match j,hj with
      | 0,hj=>simp at hj; subst hj; trivial
      | 1,hj=>simp at hj; subst hj; trivial
      | 2,hj=>simp at hj; subst hj; trivial
      | j+3,hj=>simp at hj)
    refine ⟨_,_,?_,D,ρ,hp⟩
    rw [hx]
    simp only [Instr.next,Sem.run_bind,getObj_run hbo trivial,Result.andThen_ok,hsz,hlt,if_true]
    have h1:=hone.1
    simp only [runeW] at h1
    rw [h1]
    rfl
   ·simp only [ev_ret] at hf
    subst hf
    have hge:s.length≤pos:=hvc _ (by simp)
    refine ⟨.tuple #[.bool false],w,?_,D,ρ,?_⟩
    ·rw [hx]
     simp only [Instr.next,Sem.run_bind,getObj_run hbo trivial,Result.andThen_ok,hsz,if_neg (show ¬ pos<s.length by omega),Sem.run_pure]
    ·refine (h.mono (S':=sPlus S nid) (W':=W) (fun _ h => .inl h) (fun _ h=>h)).put (W':=fun t=>W t∨some d=some t) hd hnd (fun t ht => .inl ht) (v := .tup [.c (.bool false)]) ⟨_,rfl,rfl,fun j x hj => ?_⟩ (fun j x hj => ?_)
     ·match j,hj with
      | 0,hj=>simp at hj; subst hj; exact ⟨_,rfl,rfl⟩
      | j+1,hj=>simp at hj
     ·match j,hj with
      | 0,hj=>simp at hj; subst hj; trivial
      | j+1,hj=>simp at hj
   ·simp [ev_fail] at hf
  ·simp [ev_fail] at hf
 ·simp [ev_fail] at hf
theorem last_back (j:Nat) (r:List Nat):((j::r).reverse.toArray).back?=some j:=by
 simp [Array.back?]
theorem entry_ok (hG:E.G=Γ.G) (h:Sat Γ S W D ρ st a w) (hd:d<Γ.N) (hnd:¬ W d) {x:Operand}
  (hf:(entryM E g d x).Ev st.get eff) (hvc:∀ p∈eff.vc,p):g=none∧EffOk Γ S W st a w (some d) nid eff (Instr.entry (a.eval x)):=by
 simp only [entryM,ev_bind] at hf
 obtain ⟨_,hg1,v,hv,hf⟩:=hf
 have hg0:=p1_none hg1
 subst hg0
 refine ⟨rfl,?_⟩
 split at hf
 ·rename_i id
  have hx:a.eval x = .pointer (some ⟨(ρ id).1,0,none⟩):=opd_den hG h gdn exn hv
  simp only [ev_bind,ev_rd] at hf
  obtain ⟨kv,hk,hf⟩:=hf
  split at hf
  ·rename_i mid n j0 r
   simp only [ev_bind,ev_ret] at hf
   obtain ⟨m,hm,rfl⟩:=hf
   obtain ⟨b,e,hb⟩:=get_bk hk
   simp only [KV.bk.injEq] at e
   subst e
   obtain ⟨h0,o,hbo,ho⟩:=h.hp id _ hb
   have ho:o = .mapIter (some (ρ mid).1) n (j0::r).reverse.toArray n:=ho
   subst ho
   have hlt:j0<m.length:=hvc _ (by simp)
   have hn:n=m.length:=hvc _ (by simp)
   have hbk:=ms_ev hm
   obtain ⟨_,es,hbm,he⟩:=map_obj h hbk
   have hsz:es.size=m.length:=by simpa using he.1
   have hback:=last_back j0 r
   have hmj:m[j0]?=some ((m.getD j0 ([],.c .nilif)).1,(m.getD j0 ([],.c .nilif)).2):=by
    rw [List.getD_eq_getElem?_getD,List.getElem?_eq_getElem hlt];rfl
   obtain ⟨en,q1,q2,q3,q4⟩:=he.2 j0 _ _ hmj
   have hborn:es.toList.map (·.born)=List.range es.toList.length:=by
    apply List.ext_getElem?
    intro i
    rw [List.getElem?_map]
    rcases Nat.lt_or_ge i m.length with hi | hi
    ·have hmi:m[i]?=some ((m.getD i ([],.c .nilif)).1,(m.getD i ([],.c .nilif)).2):=by
      rw [List.getD_eq_getElem?_getD,List.getElem?_eq_getElem hi];rfl
     obtain ⟨e',r1,_,_,r4⟩:=he.2 i _ _ hmi
     rw [r1,List.getElem?_range (by rw [he.1];exact hi)]
     simp [r4]
    ·rw [List.getElem?_eq_none (by rw [he.1];exact hi),List.getElem?_eq_none (by rw [List.length_range,he.1];exact hi)]
     rfl
   have hfind:es.find? (·.born==j0)=some en:=by
    rw [← Array.find?_toList,← show en.born=j0 from by omega]
    exact find_born en es.toList (by rw [hborn];exact List.nodup_range) (List.mem_of_getElem? q1)
   have hrun:(Instr.entry (a.eval x)).run Γ.P w = .ok (.tuple #[en.key,en.val]) w:=by
    rw [hx]
    simp only [Instr.entry,Sem.run_bind,getObj_run hbo trivial,Result.andThen_ok,hback,getObj_run hbm trivial]
    rw [show es.size=n from by omega]
    simp only [bne_self_eq_false,Bool.false_eq_true,if_false,hfind]
    rfl
   refine ⟨_,w,hrun,D,ρ,?_⟩
   refine (h.mono (S':=sPlus S nid) (W':=W) (fun _ h => .inl h) (fun _ h=>h)).put (W':=fun t=>W t∨some d=some t) hd hnd (fun t ht => .inl ht) (v := .tup _) ⟨_,rfl,rfl,fun j x hj => ?_⟩ (fun j x hj => ?_)
   ·match j,hj with
    | 0,hj=>simp at hj; subst hj; exact ⟨_,rfl,q2⟩
    | 1,hj=>simp at hj; subst hj; exact ⟨_,rfl,q3.1 ρ⟩
    | j+2,hj=>simp at hj
   ·match j,hj with
    | 0,hj=>simp at hj; subst hj; trivial
    | 1,hj=>simp at hj; subst hj; exact q3.2 _
    | j+2,hj=>simp at hj
  ·simp [ev_fail] at hf
 ·simp [ev_fail] at hf
theorem typeAs_ok (hP:E.P=Γ.P) (hG:E.G=Γ.G) (h:Sat Γ S W D ρ st a w) (hd:d<Γ.N) (hnd:¬ W d) {x:Operand} {xt at_:TypeId} {ok:Bool}
  (hf:(typeAsM E g d x at_ ok).Ev st.get eff):g=none∧EffOk Γ S W st a w (some d) nid eff (Instr.typeAssert (a.eval x) xt at_ ok):=by
 simp only [typeAsM,ev_bind,ev_guard] at hf
 obtain ⟨_,hg1,_,hok,_,hct,v,hv,hf⟩:=hf
 have hg0:=p1_none hg1
 subst hg0 hok
 refine ⟨rfl,?_⟩
 rw [hP] at hct hf
 obtain ⟨dd,hu,hni⟩:∃ dd,Γ.P.underlying at_=some dd∧∀ ms,dd ≠ .interface ms:=by
  unfold isConcT at hct
  split at hct
  ·cases hct
  ·rename_i dd hne hu
   exact ⟨dd,hu,fun ms e=>hne ms (e▸rfl)⟩
  ·cases hct
 have hden:=opd_den hG h gdn exn hv
 have hin:=opd_inS hG h hv
 have put2:∀ (z:V1) (b:Bool) (u:Value),DenV D ρ z u→z.inS S→SatE Γ (sPlus S nid) (fun t=>W t∨some d=some t) (st.sets [(.tm d,.tv (.tup [z,.c (.bool b)]))]) (a.put (some d) (.tuple #[u,.bool b])) w:=by
  intro z b u hz hzi
  refine ⟨D,ρ,(h.mono (S':=sPlus S nid) (W':=W) (fun _ h => .inl h) (fun _ h=>h)).put (W':=fun t=>W t∨some d=some t) hd hnd (fun t ht => .inl ht) (v := .tup _) ⟨_,rfl,rfl,fun j x hj => ?_⟩ (fun j x hj => ?_)⟩
  ·match j,hj with
   | 0,hj=>simp at hj; subst hj; exact ⟨_,rfl,hz⟩
   | 1,hj=>simp at hj; subst hj; exact ⟨_,rfl,rfl⟩
   | j+2,hj=>simp at hj
  ·match j,hj with
   | 0,hj=>simp at hj; subst hj; exact V1.inS_mono (fun _ h => .inl h) hzi
   | 1,hj=>simp at hj; subst hj; trivial
   | j+2,hj=>simp at hj
 split at hf
 ·simp only [ev_bind,ev_opt,ev_ret] at hf
  obtain ⟨z,hz,rfl⟩:=hf
  obtain ⟨u,hur,hud,hui⟩:=zeroV_run hz D ρ w
  have hx:a.eval x = .nilIface:=hden
  refine ⟨_,w,?_,put2 z false u hud (hui S)⟩
  rw [hx]
  unfold Instr.typeAssert
  simp only [Sem.run_bind,under_run hu,Result.andThen_ok]
  cases dd<;>first | exact (hni _ rfl).elim | simp [hur]
 ·rename_i t sh c
  have hden':Den D ρ (.ifc t sh c) (a.eval x):=hden
  simp only [Den] at hden'
  obtain ⟨u0,hx,hc0⟩:=hden'
  split at hf
  ·rename_i ht
   obtain rfl:=(beq_eq _ _).1 ht
   simp only [ev_ret] at hf
   subst hf
   have hd1:DenV D ρ (ifcV sh c) u0:=by
    unfold ifcV
    cases sh with
    | none=>exact hc0
    | some k =>
     obtain ⟨us,e,hs,hq⟩:=hc0
     refine ⟨us,e,by rw [hs,upL_len],fun j y hj => ?_⟩
     rw [upL_get] at hj
     split at hj
     ·rename_i hlt
      simp only [Option.some.injEq,Nat.zero_add] at hj
      subst hj
      exact hq j hlt
     ·cases hj
   have hi1:(ifcV sh c).inS S:=by
    have hin:(Cell.ifc t sh c).inS S:=hin
    unfold ifcV
    cases sh with
    | none =>
     simp only [Cell.inS] at hin
     exact hin
    | some k =>
     simp only [Cell.inS] at hin
     intro j y hj
     rw [upL_get] at hj
     split at hj
     ·rename_i hlt
      simp only [Option.some.injEq,Nat.zero_add] at hj
      subst hj
      exact hin j hlt
     ·cases hj
   refine ⟨_,w,?_,put2 _ true u0 hd1 hi1⟩
   rw [hx]
   unfold Instr.typeAssert
   simp only [Sem.run_bind,under_run hu,Result.andThen_ok]
   cases dd<;>first | exact (hni _ rfl).elim | simp
  ·rename_i ht
   have hne:=(beq_ne _ _).1 ht
   simp only [ev_bind,ev_opt,ev_ret] at hf
   obtain ⟨z,hz,rfl⟩:=hf
   obtain ⟨u,hur,hud,hui⟩:=zeroV_run hz D ρ w
   refine ⟨_,w,?_,put2 z false u hud (hui S)⟩
   rw [hx]
   unfold Instr.typeAssert
   simp only [Sem.run_bind,under_run hu,Result.andThen_ok]
   cases dd<;>first | exact (hni _ rfl).elim | simp [hur,hne]
 ·simp [ev_fail] at hf
theorem slData_ok (hG:E.G=Γ.G) (h:Sat Γ S W D ρ st a w) (hg:GdOk W g a) (hd:d<Γ.N) (hnd:¬ W d) {ts:Array TypeId} {ty:TypeId} {x:Operand}
  (hf:(slDataM E i g d x).Ev st.get eff) (hvc:∀ p∈eff.vc,p):PureOk Γ S W D ρ st a w g d eff (Builtin.unsafeSliceData_ ts ty #[a.eval x]):=by
 simp only [slDataM,ev_bind] at hf
 obtain ⟨v,hv,hf⟩:=hf
 have hx:=fun he=>opd_den hG h hg he hv
 have hin:=opd_inS hG h hv
 split at hf
 ·rename_i sz id off n
  refine fin_ok h hg hd hnd hf hvc hin (fun he hvs => ?_)
  have hn:0<n:=under_exec (hvs _ (by simp)) hg he
  rcases (hx he:Den D ρ (.row sz id off n) (a.eval x)) with ⟨o,e,h1,h2⟩ | ⟨_,_,hz,_⟩
  ·have ho:o=off*sz:=h2.resolve_right oM
   subst ho
   rw [e]
   exact ⟨_,Lib.run_unsafeSliceData_row w ts ty _ _ _ oM,by simp [DenV,Den]⟩
  ·omega
 ·refine fin_ok h hg hd hnd hf hvc trivial (fun he hvs => ?_)
  have e:a.eval x = .slice none 0 0:=hx he
  rw [e]
  exact ⟨_,Lib.run_unsafeSliceData_nil w ts ty _ _,rfl⟩
 ·simp [ev_fail] at hf
theorem freeze_off {w:World} {b:Nat} {arr:Array Value} {e:TypeId} {fz:Nat×Nat} (h:w.heap[b]?=some (.cells arr e fz)) {n:Nat} (hn:n≠0):∃ o,OneOff w (w.freeze ⟨b,0,none⟩ n) b o:=by
 have hlt:b<(w.freeze ⟨b,0,none⟩ n).heap.size:=by
  unfold World.freeze
  rw [if_neg hn]
  rcases Nat.lt_or_ge b w.heap.size with h' | h'
  ·simpa using h'
  ·simp [Array.getElem?_eq_none h'] at h
 refine ⟨(w.freeze ⟨b,0,none⟩ n).heap[b],⟨by simp [hlt],fun k hk => ?_,?_,?_,?_,?_,Nat.le_of_eq (by unfold World.freeze;rw [if_neg hn])⟩⟩
 all_goals (unfold World.freeze;rw [if_neg hn])
 ·simp only [Array.getElem?_modify];rw [if_neg (by simpa using Ne.symm hk)]
 ·simp
theorem Sat.updGone {Γ:Ctx} {S W:Nat→Prop} {D:Dat} {ρ:Rho} {st:St} {a:Act} {w w':World} (h:Sat Γ S W D ρ st a w) {id:Nat} {b:Blk} {o:Obj} (hb:look st.hp id=some b) (hlv:Live ρ id b)
  (hw:OneOff w w' (ρ id).1 o):Sat Γ S W D ρ (st.set (.bk id) .gone) a w':=by
 have key:∀ i c,look (st.set (.bk id) .gone).hp i=some c→id≠i∧look st.hp i=some c:=by
  intro i c hc
  have e:look (st.set (.bk id) .gone).hp i=if id=i then none else look st.hp i:=look_del _ _ _
  rw [e] at hc
  split at hc
  ·cases hc
  ·exact ⟨by assumption,hc⟩
 refine { h with tm:=h.tm,hp := ?_,inj := ?_,agree := ?_,sep := ?_,own := ?_,frame := ?_,os:=hw.os.trans h.os,tape:=hw.tape.trans h.tape,output:=hw.output.trans h.output,grow:=by rw [hw.size];exact h.grow,drawn:=fun n=>Nat.le_trans (h.drawn n) hw.drawn,idT:=h.idT,idH := ?_ }
 ·intro i c hc
  obtain ⟨hne,hc⟩:=key i c hc
  by_cases lc:Live ρ i c
  ·exact (h.hp i c hc).world (hw.other _ (fun e'=>hne (h.inj id i b c hb hc hlv lc e'.symm)))
  ·exact (h.hp i c hc).dead lc
 ·intro i j bi bj hi hj li lj hij
  exact h.inj i j bi bj (key i bi hi).2 (key j bj hj).2 li lj hij
 ·intro b' o' v hv
  have hne:b'≠(ρ id).1:=by
   rintro rfl
   rw [h.sep id b hb hlv o'] at hv
   cases hv
  rw [cell_block (hw.other b' hne)]
  exact h.agree b' o' v hv
 ·intro i c hc lc
  exact h.sep i c (key i c hc).2 lc
 ·intro i c hc lc
  exact h.own i c (key i c hc).2 lc
 ·intro b' hlt hk
  have hne:b'≠(ρ id).1:=by
   rintro rfl
   rcases h.own id b hb hlv with h1 | ⟨i,hi,e⟩
   ·omega
   ·exact hk i hi e.1 e.2
  rw [hw.other b' hne]
  exact h.frame b' hlt hk
 ·intro i c hc
  exact h.idH i c (key i c hc).2
theorem unStr_ok (hP:E.P=Γ.P) (hG:E.G=Γ.G) (h:Sat Γ S W D ρ st a w) (hd:d<Γ.N) (hnd:¬ W d) {t it ty:TypeId} {x y:Operand}
  (hf:(unStrM E i g d t x y).Ev st.get eff) (hvc:∀ p∈eff.vc,p):g=none∧EffOk Γ S W st a w (some d) nid eff (Builtin.unsafeString_ #[t,it] ty #[a.eval x,a.eval y]):=by
 simp only [unStrM,ev_bind] at hf
 obtain ⟨_,hg1,v,hv,v2,hv2,n,hn,hf⟩:=hf
 have hg0:=p1_none hg1
 subst hg0
 have hn:=int_ev hn
 subst hn
 refine ⟨rfl,?_⟩
 have hy:a.eval y = .int n.1 n.2:=opd_den hG h gdn exn hv2
 split at hf
 ·rename_i sz id
  simp only [ev_bind,ev_opt,ev_guard,ev_ret] at hf
  obtain ⟨r,hr,el,hel,_,hgd,rfl⟩:=hf
  obtain ⟨g1,hgd⟩:=bAnd_eq hgd
  obtain ⟨g2,hgd⟩:=bAnd_eq hgd
  obtain ⟨g3,g4⟩:=bAnd_eq hgd
  have g1:=(beq_eq _ _).1 g1
  have g2:=(beq_eq _ _).1 g2
  have g3:=kEq_eq g3
  have g4:=(beq_eq _ _).1 g4
  have hrow:=row_ev hr
  obtain ⟨re,rs,rn,rf⟩:=r
  simp only at g1 g2 hrow hvc
  subst g1 g2
  have v1:0<n.2:=hvc _ (by simp)
  have v2:n.2.toNat≤rn:=hvc _ (by simp)
  have v3:n.2≤9223372036854775807:=hvc _ (by simp)
  have v4:areBytes rf 0 n.2.toNat:=hvc _ (by simp)
  obtain ⟨e1,e2⟩:=asV_ok (E:=E) (i:=i) (v := .c (.str (byteL rf 0 n.2.toNat))) (fun p hp=>hvc p (by simp [hp]))
  rw [hP] at hel g4
  have hpt:Γ.P.underlying t=some (.pointer re):=by
   unfold tPtr at hel
   split at hel
   ·rename_i e hh;simp only [Option.some.injEq] at hel;subst hel;exact hh
   ·cases hel
  have hx:a.eval x = .pointer (some ⟨(ρ id).1,0*sz+0,none⟩):=opd_den hG h gdn exn hv
  have hx:a.eval x = .pointer (some ⟨(ρ id).1,0,none⟩):=by simpa using hx
  rcases h.hp id _ hrow with hb | ⟨vs,fz,q1,q2,q3,q4,q5,q6,q7,q8⟩
  ·omega
  have hln:(byteL rf 0 n.2.toNat).length=n.2.toNat:=by simp [byteL]
  have hnn:((byteL rf 0 n.2.toNat).length:Int)=n.2:=by rw [hln];omega
  have hrun:=Lib.run_unsafeString_row (P:=Γ.P) w t it ty re hpt g4 (ρ id).1 vs.size (by simp [World.shape?,q1]) (byteL rf 0 n.2.toNat) (by intro e;rw [e] at hln;simp at hln;omega) (by rw [hln,q2];omega) (by rw [hln];omega) (by
   intro j x hj
   have hjl:j<n.2.toNat:=by
    rw [← hln]
    rcases Nat.lt_or_ge j (byteL rf 0 n.2.toNat).length with h | h
    ·exact h
    ·simp [List.getElem?_eq_none h] at hj
   obtain ⟨u,hu,hdn⟩:=q8 j oM 0 oM
   have hc:=v4 j hjl
   rw [Nat.zero_add] at hc
   rw [hc] at hdn
   have hdn:u = .int .u8 _:=hdn
   simp only [byteL,List.getElem?_map,List.getElem?_range hjl,Option.map_some,Option.some.injEq,Nat.zero_add] at hj
   subst hj
   rw [show ((⟨(ρ id).1,0,none⟩:Addr).add j)=⟨(ρ id).1,0+j,none⟩ from addr_add _ _ _]
   have hu':vs[j]?=some u:=by simpa using hu
   rw [show (⟨(ρ id).1,0+j,none⟩:Addr)=⟨(ρ id).1,j,none⟩ from by simp]
   simp only [World.cell?,q1,Option.isSome_none,Bool.false_eq_true,if_false]
   rw [hu',hdn])
  rw [hnn] at hrun
  have hl0:(byteL rf 0 n.2.toNat).length≠0:=by rw [hln];omega
  obtain ⟨o,hone⟩:=freeze_off q1 hl0
  have hlv:Live ρ id (.row re 1 rn rf):=by show (ρ id).2≠0;omega
  refine ⟨.string ⟨(byteL rf 0 n.2.toNat).toArray⟩,w.freeze ⟨(ρ id).1,0,none⟩ (byteL rf 0 n.2.toNat).length,?_,D,ρ,?_⟩
  ·rw [hx,hy,g3];exact hrun
  ·have hs:=h.updGone hrow hlv hone
   exact (hs.mono (S':=sPlus S nid) (W':=W) (fun _ h => .inl h) (fun _ h=>h)).put (W':=fun t=>W t∨some d=some t) hd hnd (fun t ht => .inl ht) (v := .v _) (e2 _ _ _ rfl) (e1 _ trivial)
 ·simp only [ev_ret] at hf
  subst hf
  have hn0:n.2=0:=hvc _ (by simp)
  have hx:a.eval x = .pointer none:=opd_den hG h gdn exn hv
  refine ⟨.string ⟨#[]⟩,w,?_,D,ρ,?_⟩
  ·rw [hx,hy,hn0]
   rfl
  ·exact (h.mono (S':=sPlus S nid) (W':=W) (fun _ h => .inl h) (fun _ h=>h)).put (W':=fun t=>W t∨some d=some t) hd hnd (fun t ht => .inl ht) (v := .v (.c (.str []))) rfl trivial
 ·simp [ev_fail] at hf
end
end Go.Sv
end
section
namespace Go.Sv
open M
def bxM (id:Nat):M (TypeId×List Cell):=bind (rd (.bk id)) fun
 | .bk (.box e cs)=>ret (e,cs)
 | _=>fail
def toUnsM (E:Env) (i:Nat) (g:OG) (d:Nat) (e:TypeId) (x:Operand):M Eff :=
 bind (opdM E g x) fun v=>match v with
 | .c .nilptr=>finM E i g d [] (.c .nilptr)
 | .c (.ptr id o)=>bind (bxM id) fun b=>bind (opt (tSize E.P e)) fun sz=>bind (guard (bAnd (Nat.blt o (len b.2)) (Nat.blt 0 sz))) fun _=>finM E i g d [] (.c (.ptr id o))
 | _=>fail
def frUnsM (E:Env) (i:Nat) (g:OG) (d:Nat) (u:TypeId) (x:Operand):M Eff :=
 bind (opdM E g x) fun v=>match v with
 | .c .nilptr=>finM E i g d [] (.c .nilptr)
 | .c (.ptr id o)=>bind (bxM id) fun b=>bind (opt (tSize E.P u)) fun sz=>bind (guard (liesAt E.P E.P.depth b.1 (len b.2 / E.P.cellsOf b.1) o u 1)) fun _=>finM E i g d [] (.c (.ptr id o))
 | _=>fail
def isByteD:TypeDesc→Bool
 | .int k=>kEq k .u8
 | _=>false
def toStrM (E:Env) (i:Nat) (g:OG) (d:Nat) (e:TypeId) (x:Operand):M Eff :=
 bind (opdM E g x) fun v=>bind (guard (tIs E.P isByteD e)) fun _=>match v with
 | .c .nilsl=>finM E i g d [] (.c (.str []))
 | .c (.sl 1 n f)=>finM E i g d [under g (areBytes f 0 n)] (.c (.str (byteL f 0 n)))
 | .c (.row 1 id off n)=>bind (rowM id) fun r=>bind (guard (Nat.beq r.2.1 1)) fun _=>finM E i g d [under g (off+n≤r.2.2.1),under g (areBytes r.2.2.2 off n)] (.c (.str (byteL r.2.2.2 off n)))
 | _=>fail
def convXM (E:Env) (i:Nat) (g:OG) (d:Nat) (s t:TypeId) (x:Operand):M Eff :=
 match E.P.underlying s,E.P.underlying t with
 | some (.pointer e),some .unsafePointer=>toUnsM E i g d e x
 | some .unsafePointer,some (.pointer u)=>frUnsM E i g d u x
 | some (.slice e),some .string=>toStrM E i g d e x
 | _,_=>convM E i g d s t x
def pickXM (E:Env) (i:Nat) (g:OG) (d:Nat) (c x y:Operand):M Eff :=
 match look E.grd i with
 | some w=>bind (opdM E g c) fun vc=>bind (boolM vc) fun b=>bind (opdM E g (match w with | true=>x | false=>y)) fun v=>finM E i g d [under g (b=w)] v
 | none=>pickM E i g d c x y
def moveXM (E:Env) (i:Nat) (g:OG) (d:Nat) (x:Operand):M Eff :=
 match x with
 | .tmp t=>bind (rd (.tm t)) fun kv=>match kv with
  | .tv (.tup l)=>bind (pure1 g) fun _=>ret ⟨[(.tm d,.tv (.tup l))],[]⟩
  | _=>bind (opdM E g (.tmp t)) fun v=>finM E i g d [] v
 | x=>bind (opdM E g x) fun v=>finM E i g d [] v
def minmaxM (E:Env) (i:Nat) (g:OG) (d:Nat) (mn:Bool) (x y:Operand):M Eff :=
 bind (opdM E g x) fun v=>bind (intM v) fun a=>bind (opdM E g y) fun v2=>bind (intM v2) fun b =>
 bind (guard (kEq a.1 b.1)) fun _=>match mn with
 | true=>finM E i g d [] (.c (.int a.1 (if b.2<a.2 then b.2 else a.2)))
 | false=>finM E i g d [] (.c (.int a.1 (if b.2>a.2 then b.2 else a.2)))
def isNoEsc (P:Program) (f:FuncId):Bool:=match P.funcs[f]? with
 | some fn=>bAnd fn.body.isNone (bAnd (fn.name == "internal/abi.NoEscape") (fn.origin == ""))
 | none=>false
theorem a1:Extern.allNextRows.lookup "internal/abi.NoEscape" = none:=by kernel_rfl
theorem a2:(Extern.allRows.lookup "internal/abi.NoEscape")=some Extern.AbiNoEscape.same:=by kernel_rfl
theorem a3:(Extern.allGenericRows.lookup "internal/abi.NoEscape").isNone=true:=by kernel_rfl
theorem a4:(Extern.allTypedRows.lookup "internal/abi.NoEscape").isNone=true:=by kernel_rfl
theorem a5:(Extern.allNextRows.lookup "").isNone=true:=by kernel_rfl
theorem noEsc_run {P:Program} {f:FuncId} (h:isNoEsc P f=true) (x:Value) (w:World):(callFunc f #[x]).run P w = .ok (.value x) w:=by
 unfold isNoEsc at h
 split at h
 ·rename_i fn hf
  obtain ⟨h1,h⟩:=bAnd_eq h
  obtain ⟨h2,h3⟩:=bAnd_eq h
  have h2:fn.name = "internal/abi.NoEscape" := by simpa using h2
  have h3:fn.origin = "" := by simpa using h3
  have b3:Extern.allGenericRows.lookup "internal/abi.NoEscape" = none:=by simpa using a3
  have b4:Extern.allTypedRows.lookup "internal/abi.NoEscape" = none:=by simpa using a4
  have b5:Extern.allNextRows.lookup "" = none:=by simpa using a5
  rw [run_callFunc_extern hf (by rw [h2];rfl) h1 (by simp [Extern.findNext,h2,h3,a1,b5]) (e:=Extern.AbiNoEscape.same) (by simp [Extern.find,h2,a2,b3,b4])]
  rfl
 ·cases h
section
variable {Γ:Ctx} {S W:Nat→Prop} {D:Dat} {ρ:Rho} {st:St} {a:Act} {w:World} {E:Env} {i d nid:Nat} {g:OG} {eff:Eff}
theorem bx_ev {id:Nat} {b:TypeId×List Cell} (h:(bxM id).Ev st.get b):look st.hp id=some (.box b.1 b.2):=by
 simp only [bxM,ev_bind,ev_rd] at h
 obtain ⟨kv,hk,hl⟩:=h
 obtain ⟨c,rfl,hb⟩:=get_bk hk
 cases c with
 | box e cs=>simp only [ev_ret] at hl; subst hl; exact hb
 | row e sz n f=>simp [ev_fail] at hl
 | ob o=>simp [ev_fail] at hl
theorem box_shape (h:Sat Γ S W D ρ st a w) {id:Nat} {e:TypeId} {cs:List Cell} (hb:look st.hp id=some (.box e cs)):w.shape? (ρ id).1=some (e,cs.length):=by
 obtain ⟨_,vs,fz,h1,h2,_⟩:=h.hp id _ hb
 simp [World.shape?,h1,h2]
theorem info_of {P:Program} {t:TypeId} {n:Nat} (h:tSize P t=some n):∃ j,P.info? t=some j∧j.size=n:=by
 unfold tSize at h
 split at h
 ·rename_i j hj;simp only [Option.some.injEq] at h;exact ⟨j,hj,h⟩
 ·cases h
theorem conv_nil {P:Program} {s t:TypeId} {ds dt:TypeDesc} (hs:P.underlying s=some ds) (ht:P.underlying t=some dt) (h:(∃ e,ds = .pointer e∧dt = .unsafePointer)∨∃ u,ds = .unsafePointer∧dt = .pointer u) (w:World) :
  (convert s t (.pointer none)).run P w = .ok (.pointer none) w:=by
 rcases h with ⟨e,rfl,rfl⟩ | ⟨u,rfl,rfl⟩<;>simp [convert,run_underlying hs,run_underlying ht,Conv.unsafePointer]
theorem bytes_foldl:∀ (ns:List Int) (acc:ByteArray),ns.foldl (fun s n=>s.push (UInt8.ofNat n.toNat)) acc=⟨(acc.data.toList++ns.map fun n=>UInt8.ofNat n.toNat).toArray⟩
 | [],acc=>by simp
 | n::r,acc=>by
  simp only [List.foldl_cons]
  rw [bytes_foldl r]
  simp [ByteArray.push]
theorem toStr_run {P:Program} {s t e:TypeId} (hs:P.underlying s=some (.slice e)) (ht:P.underlying t=some .string) (he:tIs P isByteD e=true) {f:Nat→Nat→Cell} {off n cap:Nat} {b o:Nat} (hb:areBytes f off n)
  (hc:∀ i,i<n→∃ ρ,∃ u,w.cell? ⟨b,o+i,none⟩=some u∧Den D ρ (f (off+i) 0) u) :
  (convert s t (.slice (some ⟨b,o,none⟩) n cap)).run P w = .ok (.string ⟨(byteL f off n).toArray⟩) w:=by
 obtain ⟨dd,h1,h2⟩:=tIs_run he
 have hu:P.underlying e=some (.int .u8):=by
  cases dd<;>simp [isByteD] at h2
  rw [← kEq_eq h2];exact h1
 let ns:List Int:=(List.range n).map fun i=>((byteOf (f (off+i) 0)).toNat:Int)
 have hl:ns.length=n:=by simp [ns]
 have hload:(loadCells ⟨b,o,none⟩ n).run P w = .ok (ns.map (Value.int .u8)).toArray w:=by
  have:=run_loadCells_list (P:=P) (w:=w) ⟨b,o,none⟩ (ns.map (Value.int .u8)) (fun j v hj=>by
   simp only [List.getElem?_map,Option.map_eq_some_iff,ns] at hj
   obtain ⟨x,⟨y,hy,rfl⟩,rfl⟩:=hj
   have hjn:j<n:=by
    rcases Nat.lt_or_ge j n with h | h
    ·exact h
    ·rw [List.getElem?_eq_none (by simpa using h)] at hy;cases hy
   rw [List.getElem?_range hjn,Option.some.injEq] at hy
   subst hy
   obtain ⟨ρ,u,hu,hd⟩:=hc j hjn
   rw [hb j hjn] at hd
   have hd:u=_:=hd
   subst hd
   rw [addr_add];exact hu)
  rw [List.length_map,hl] at this
  exact this
 have hx:=run_bytesToString w ⟨b,o,none⟩ n cap ns hload
 rw [bytes_foldl] at hx
 simp only [convert,Sem.run_bind,run_underlying hs,run_underlying ht,Result.andThen_ok,run_underlying hu]
 rw [hx]
 congr 3
 simp only [ns,byteL,List.map_map]
 have hz:(ByteArray.empty.data.toList:List UInt8)=[]:=rfl
 rw [hz,List.nil_append]
 congr 1
 refine List.map_congr_left fun i _ => ?_
 simp
theorem toUns_ok (hP:E.P=Γ.P) (hG:E.G=Γ.G) (h:Sat Γ S W D ρ st a w) (hg:GdOk W g a) (hd:d<Γ.N) (hnd:¬ W d) {s t e:TypeId} (hs:Γ.P.underlying s=some (.pointer e)) (ht:Γ.P.underlying t=some .unsafePointer) {x:Operand}
  (hf:(toUnsM E i g d e x).Ev st.get eff) (hvc:∀ p∈eff.vc,p):PureOk Γ S W D ρ st a w g d eff (convert s t (a.eval x)):=by
 simp only [toUnsM,ev_bind] at hf
 obtain ⟨v,hv,hf⟩:=hf
 have hx:=fun he=>opd_den hG h hg he hv
 have hin:=opd_inS hG h hv
 split at hf
 ·refine fin_ok h hg hd hnd hf hvc trivial (fun he hvs=>⟨_,?_,rfl⟩)
  rw [show a.eval x = .pointer none from hx he]
  exact conv_nil hs ht (.inl ⟨e,rfl,rfl⟩) w
 ·rename_i id o
  simp only [ev_bind,ev_opt,ev_guard] at hf
  obtain ⟨b,hb,sz,hsz,_,hgd,hf⟩:=hf
  obtain ⟨g1,g2⟩:=bAnd_eq hgd
  have g1:o<len b.2:=Nat.le_of_ble_eq_true g1
  have g2:0<sz:=Nat.le_of_ble_eq_true g2
  rw [len_eq] at g1
  rw [hP] at hsz
  obtain ⟨j,hj,hjs⟩:=info_of hsz
  refine fin_ok h hg hd hnd hf hvc hin (fun he hvs=>⟨.pointer (some ⟨(ρ id).1,o,none⟩),?_,rfl⟩)
  rw [show a.eval x = .pointer (some ⟨(ρ id).1,o,none⟩) from hx he]
  exact Lib.run_to_unsafe w _ hs ht hj oM (box_shape h (bx_ev hb)) g1
 ·simp [ev_fail] at hf
theorem frUns_ok (hP:E.P=Γ.P) (hG:E.G=Γ.G) (h:Sat Γ S W D ρ st a w) (hg:GdOk W g a) (hd:d<Γ.N) (hnd:¬ W d) {s t u:TypeId} (hs:Γ.P.underlying s=some .unsafePointer) (ht:Γ.P.underlying t=some (.pointer u)) {x:Operand}
  (hf:(frUnsM E i g d u x).Ev st.get eff) (hvc:∀ p∈eff.vc,p):PureOk Γ S W D ρ st a w g d eff (convert s t (a.eval x)):=by
 simp only [frUnsM,ev_bind] at hf
 obtain ⟨v,hv,hf⟩:=hf
 have hx:=fun he=>opd_den hG h hg he hv
 have hin:=opd_inS hG h hv
 split at hf
 ·refine fin_ok h hg hd hnd hf hvc trivial (fun he hvs=>⟨_,?_,rfl⟩)
  rw [show a.eval x = .pointer none from hx he]
  exact conv_nil hs ht (.inr ⟨u,rfl,rfl⟩) w
 ·rename_i id o
  simp only [ev_bind,ev_opt,ev_guard] at hf
  obtain ⟨b,hb,sz,hsz,_,hgd,hf⟩:=hf
  rw [hP,len_eq] at hgd
  rw [hP] at hsz
  obtain ⟨j,hj,hjs⟩:=info_of hsz
  refine fin_ok h hg hd hnd hf hvc hin (fun he hvs=>⟨.pointer (some ⟨(ρ id).1,o,none⟩),?_,rfl⟩)
  rw [show a.eval x = .pointer (some ⟨(ρ id).1,o,none⟩) from hx he]
  exact Lib.run_from_unsafe w _ hs ht hj (box_shape h (bx_ev hb)) hgd
 ·simp [ev_fail] at hf
theorem toStr_ok (hP:E.P=Γ.P) (hG:E.G=Γ.G) (h:Sat Γ S W D ρ st a w) (hg:GdOk W g a) (hd:d<Γ.N) (hnd:¬ W d) {s t e:TypeId} (hs:Γ.P.underlying s=some (.slice e)) (ht:Γ.P.underlying t=some .string) {x:Operand}
  (hf:(toStrM E i g d e x).Ev st.get eff) (hvc:∀ p∈eff.vc,p):PureOk Γ S W D ρ st a w g d eff (convert s t (a.eval x)):=by
 simp only [toStrM,ev_bind,ev_guard] at hf
 obtain ⟨v,hv,_,he,hf⟩:=hf
 rw [hP] at he
 have hx:=fun hex=>opd_den hG h hg hex hv
 have hin:=opd_inS hG h hv
 have nul:∀ cap,(convert s t (.slice none 0 cap)).run Γ.P w = .ok (.string ⟨([]:List UInt8).toArray⟩) w:=by
  intro cap
  obtain ⟨dd,h1,h2⟩:=tIs_run he
  have hu:Γ.P.underlying e=some (.int .u8):=by
   cases dd<;>simp [isByteD] at h2
   rw [← kEq_eq h2];exact h1
  simp only [convert,Sem.run_bind,run_underlying hs,run_underlying ht,Result.andThen_ok,run_underlying hu]
  rfl
 have nulA:∀ ad cap,(convert s t (.slice ad 0 cap)).run Γ.P w = .ok (.string ⟨([]:List UInt8).toArray⟩) w:=by
  intro ad cap
  cases ad with
  | none=>exact nul cap
  | some a =>
   obtain ⟨dd,h1,h2⟩:=tIs_run he
   have hu:Γ.P.underlying e=some (.int .u8):=by
    cases dd<;>simp [isByteD] at h2
    rw [← kEq_eq h2];exact h1
   have hload:=run_loadCells_list (P:=Γ.P) (w:=w) a [] (fun j v hj=>by simp at hj)
   have hx:=run_bytesToString w a 0 cap [] hload
   simp only [convert,Sem.run_bind,run_underlying hs,run_underlying ht,Result.andThen_ok,run_underlying hu]
   rw [hx]
   rfl
 split at hf
 ·refine fin_ok h hg hd hnd hf hvc trivial (fun hex hvs=>⟨_,?_,rfl⟩)
  rw [show a.eval x = .slice none 0 0 from hx hex]
  exact nul 0
 ·rename_i n f
  refine fin_ok h hg hd hnd hf hvc trivial (fun hex hvs => ?_)
  have hb:areBytes f 0 n:=under_exec (hvs _ (by simp)) hg hex
  obtain ⟨ad,cap,e1,h1,h2,h3⟩:=(hx hex:Den D ρ (.sl 1 n f) (a.eval x))
  rw [e1]
  rcases h3 with h3 | ⟨b,o,rfl,h3⟩
  ·have:n=0:=by omega
   subst this
   exact ⟨_,nulA ad cap,rfl⟩
  ·refine ⟨_,toStr_run (D:=D) hs ht he hb (fun i hi => ?_),rfl⟩
   obtain ⟨u,hu,hdn⟩:=h3 i hi 0 oM
   exact ⟨rho0,u,by have:=h.agree _ _ _ hu;simpa using this,by simpa using hdn⟩
 ·rename_i id off n
  simp only [ev_bind,ev_guard] at hf
  obtain ⟨r,hr,_,hg1,hf⟩:=hf
  have hg1:=(beq_eq _ _).1 hg1
  have hrow:=row_ev hr
  obtain ⟨re,rs,rn,rf⟩:=r
  simp only at hg1 hrow hf
  subst hg1
  refine fin_ok h hg hd hnd hf hvc trivial (fun hex hvs => ?_)
  have hl:off+n≤rn:=under_exec (hvs _ (by simp)) hg hex
  have hb:areBytes rf off n:=under_exec (hvs _ (by simp)) hg hex
  have zero:n=0→∀ ad cap,(ad=none∨∃ b o,ad=some (⟨b,o,none⟩:Addr))→∃ u,(convert s t (.slice ad 0 cap)).run Γ.P w = .ok u w∧DenV D ρ (.c (.str (byteL rf off n))) u:=by
   intro hn ad cap had
   subst hn
   rcases had with rfl | ⟨b,o,rfl⟩
   ·exact ⟨_,nul cap,rfl⟩
   ·exact ⟨_,toStr_run (D:=D) hs ht he (f:=rf) (off:=off) (n:=0) (fun i hi=>by omega) (fun i hi=>by omega),rfl⟩
  rcases (hx hex:Den D ρ (.row 1 id off n) (a.eval x)) with ⟨o,e1,h1,h2⟩ | ⟨_,_,h1,ad,had,e1⟩
  ·by_cases hn:n=0
   ·subst hn;rw [e1];exact zero rfl _ _ (.inr ⟨_,_,rfl⟩)
   ·have ho:o=off*1:=h2.resolve_right oM
    rw [e1]
    refine ⟨_,toStr_run (D:=D) hs ht he hb (fun i hi => ?_),rfl⟩
    rcases h.hp id _ hrow with hbk | ⟨vs,fz,q1,q2,q3,q4,q5,q6,q7,q8⟩
    ·omega
    ·obtain ⟨u,hu,hdn⟩:=q8 (off+i) oM 0 oM
     refine ⟨rho0,u,?_,hdn⟩
     simp only [World.cell?,q1,Option.isSome_none,Bool.false_eq_true,if_false]
     rw [← hu,ho];congr 1;omega
  ·subst h1;rw [e1]
   exact zero rfl _ _ had
 ·simp [ev_fail] at hf
theorem convX_ok (hP:E.P=Γ.P) (hG:E.G=Γ.G) (h:Sat Γ S W D ρ st a w) (hg:GdOk W g a) (hd:d<Γ.N) (hnd:¬ W d) {s t:TypeId} {x:Operand}
  (hf:(convXM E i g d s t x).Ev st.get eff) (hvc:∀ p∈eff.vc,p):PureOk Γ S W D ρ st a w g d eff (convert s t (a.eval x)):=by
 unfold convXM at hf
 split at hf
 ·rename_i e hs ht
  exact toUns_ok hP hG h hg hd hnd (hP▸hs) (hP▸ht) hf hvc
 ·rename_i u hs ht
  exact frUns_ok hP hG h hg hd hnd (hP▸hs) (hP▸ht) hf hvc
 ·rename_i e hs ht
  exact toStr_ok hP hG h hg hd hnd (hP▸hs) (hP▸ht) hf hvc
 ·exact conv_ok hP hG h hg hd hnd hf hvc
theorem pickX_ok (hG:E.G=Γ.G) (h:Sat Γ S W D ρ st a w) (hg:GdOk W g a) (hd:d<Γ.N) (hnd:¬ W d) {c x y:Operand}
  (hf:(pickXM E i g d c x y).Ev st.get eff) (hvc:∀ p∈eff.vc,p) :
  PureOk Γ S W D ρ st a w g d eff (do pure (if ← asBool (a.eval c) then a.eval x else a.eval y)):=by
 unfold pickXM at hf
 split at hf
 ·rename_i ww _
  simp only [ev_bind] at hf
  obtain ⟨vc,hvc0,b,hb,v,hv,hf⟩:=hf
  have hb:=bool_ev hb
  subst hb
  refine fin_ok h hg hd hnd hf hvc (opd_inS hG h hv) (fun he hvs => ?_)
  have hbw:b=ww:=under_exec (hvs _ (by simp)) hg he
  subst hbw
  have hc:a.eval c = .bool b:=opd_den hG h hg he hvc0
  have hx:=opd_den hG h hg he hv
  rw [hc]
  cases b with
  | true=>exact ⟨_,by simp [asBool],hx⟩
  | false=>exact ⟨_,by simp [asBool],hx⟩
 ·exact pick_ok hG h hg hd hnd hf hvc
theorem moveX_ok (hG:E.G=Γ.G) (h:Sat Γ S W D ρ st a w) (hg:GdOk W g a) (hd:d<Γ.N) (hnd:¬ W d) {x:Operand}
  (hf:(moveXM E i g d x).Ev st.get eff) (hvc:∀ p∈eff.vc,p):PureOk Γ S W D ρ st a w g d eff (pure (a.eval x)):=by
 unfold moveXM at hf
 split at hf
 ·rename_i t
  simp only [ev_bind,ev_rd] at hf
  obtain ⟨kv,hk,hf⟩:=hf
  split at hf
  ·rename_i l
   simp only [ev_bind,ev_ret] at hf
   obtain ⟨_,hg1,rfl⟩:=hf
   have hg0:=p1_none hg1
   subst hg0
   obtain ⟨tv,e,hl⟩:=get_tm hk
   simp only [KV.tv.injEq] at e
   subst e
   obtain ⟨u,hu,hdn⟩:=h.tm t _ hl
   have hin:=h.idT t _ hl
   refine ⟨fun he=>⟨a.eval (.tmp t),rfl,h.put hd hnd (fun t ht => .inl ht) (v := .tup l) ?_ hin⟩,fun he=>(he exn).elim⟩
   rw [tmps_getD hu]
   exact hdn
  ·exact move_ok hG h hg hd hnd (by simp only [ev_bind];exact (by simpa only [ev_bind] using hf)) hvc
 ·exact move_ok hG h hg hd hnd hf hvc
theorem minmax_ok (hP:E.P=Γ.P) (hG:E.G=Γ.G) (h:Sat Γ S W D ρ st a w) (hg:GdOk W g a) (hd:d<Γ.N) (hnd:¬ W d) {mn:Bool} {x y:Operand} {ts:Array TypeId} {ty:TypeId}
  (hf:(minmaxM E i g d mn x y).Ev st.get eff) (hvc:∀ p∈eff.vc,p):PureOk Γ S W D ρ st a w g d eff (if mn then Builtin.min_ ts ty #[a.eval x,a.eval y] else Builtin.max_ ts ty #[a.eval x,a.eval y]):=by
 simp only [minmaxM,ev_bind,ev_guard] at hf
 obtain ⟨v,hv,p,hp,v2,hv2,q,hq,_,hk,hf⟩:=hf
 have hp:=int_ev hp
 have hq:=int_ev hq
 subst hp hq
 have hk:=kEq_eq hk
 have hx:=fun he=>opd_den hG h hg he hv
 have hy:=fun he=>opd_den hG h hg he hv2
 split at hf
 ·refine fin_ok h hg hd hnd hf hvc trivial (fun he hvs=>⟨_,?_,rfl⟩)
  rw [show a.eval x = .int p.1 p.2 from hx he,show a.eval y = .int q.1 q.2 from hy he]
  simp [Builtin.min_,Builtin.min2]
 ·refine fin_ok h hg hd hnd hf hvc trivial (fun he hvs=>⟨_,?_,rfl⟩)
  rw [show a.eval x = .int p.1 p.2 from hx he,show a.eval y = .int q.1 q.2 from hy he]
  simp [Builtin.max_,Builtin.max2]
end
end Go.Sv
end
section
namespace Go.Sv
open M
def newR (E:Env) (i el sz nid d n:Nat) (f:Nat→Nat→Cell) (vc:List Prop):Eff :=
 ⟨[(.bk nid,.bk (blkOf E i (.row el sz n f)).1),(.tm d,.tv (.v (.c (.row sz nid 0 n))))],vc++(blkOf E i (.row el sz n f)).2⟩
def strOfM:V1→M (List UInt8)
 | .c (.str s)=>ret s
 | _=>fail
def toBytM (E:Env) (i nid:Nat) (g:OG) (d:Nat) (e:TypeId) (x:Operand):M Eff :=
 bind (pure1 g) fun _=>bind (opdM E none x) fun v=>bind (strOfM v) fun s=>bind (guard (tIs E.P isByteD e)) fun _ =>
 ret (newR E i e 1 nid d s.length (fun i _ => .int .u8 ((s.getD i 0).toNat:Int)) [s.length≤140737488355328])
def mkSliceM (E:Env) (i nid:Nat) (g:OG) (d:Nat) (t:TypeId) (x y:Operand):M Eff :=
 bind (pure1 g) fun _=>bind (opdM E none x) fun v=>bind (intM v) fun a=>bind (opdM E none y) fun u=>bind (intM u) fun b =>
 bind (opt (tElem E.P t)) fun el=>bind (opt (tSize E.P el)) fun sz=>bind (opt (tBytes E.P el)) fun bytes=>bind (opt (tZero E.P el)) fun z =>
 bind (guard (bAnd (Nat.blt 0 sz) (bAnd (Nat.blt 0 bytes) (bAnd (Nat.beq (len z) sz) (flats z))))) fun _ =>
 ret (newR E i el sz nid d a.2.toNat (fun _ j=>nthD z j) [0≤a.2,a.2≤b.2,b.2*(bytes:Int)≤140737488355328])
def cpyF (off m:Nat) (f g:Nat→Nat→Cell):Nat→Nat→Cell:=fun i j=>if i<off then f i j else if i<off+m then g (i-off) j else f i j
def cpyB (E:Env) (i el sz id off m n d:Nat) (f:Nat→Nat→Cell) (q:Els):Eff :=
 ⟨[(.bk id,.bk (blkOf E i (.row el sz n (cpyF off q.n f q.f))).1),(.tm d,.tv (.v (.c (.int .i64 (q.n:Int)))))],(q.n≤m)::(off+m≤n)::((blkOf E i (.row el sz n (cpyF off q.n f q.f))).2++q.vc)⟩
def copyRM (E:Env) (i:Nat) (g:OG) (d:Nat) (t:TypeId) (x y:Operand):M Eff :=
 bind (pure1 g) fun _=>bind (opdM E none x) fun v=>bind (cellM v) fun c=>bind (opdM E none y) fun u=>bind (cellM u) fun b =>
 bind (opt (tElem E.P t)) fun el=>bind (opt (tSize E.P el)) fun sz=>bind (guard (Nat.blt 0 sz)) fun _ =>
 match c with
 | .row s id off m=>bind (guard (Nat.beq s sz)) fun _=>bind (rowM id) fun r=>bind (guard (bAnd (Nat.beq r.1 el) (Nat.beq r.2.1 sz))) fun _ =>
   bind (srcM sz (some id) b) fun q =>
   ret (cpyB E i el sz id off m r.2.2.1 d r.2.2.2 q)
 | _=>fail
def cpyL (off n:Nat) (f:Nat→Nat→Cell) (cs:List Cell):List Cell:=upL (fun j=>if j<off then nthD cs j else if j<off+n then f (j-off) 0 else nthD cs j) 0 (len cs)
def cpyX (E:Env) (i id off m d:Nat) (r:TypeId×List Cell) (q:Els):Eff :=
 ⟨[(.bk id,.bk (blkOf E i (.box r.1 (cpyL off q.n q.f r.2))).1),(.tm d,.tv (.v (.c (.int .i64 (q.n:Int)))))],(q.n≤m)::(off+m≤len r.2)::(∀ k,k<q.n→(q.f k 0).flat=true)::((blkOf E i (.box r.1 (cpyL off q.n q.f r.2))).2++q.vc)⟩
def copyBM (E:Env) (i:Nat) (g:OG) (d:Nat) (t:TypeId) (x y:Operand):M Eff :=
 bind (pure1 g) fun _=>bind (opdM E none x) fun v=>bind (cellM v) fun c=>bind (opdM E none y) fun u=>bind (cellM u) fun b =>
 bind (opt (tElem E.P t)) fun el=>bind (opt (tSize E.P el)) fun sz=>bind (guard (Nat.beq sz 1)) fun _ =>
 match c with
 | .row s id off m=>bind (guard (Nat.beq s 1)) fun _=>bind (bxM id) fun r=>bind (srcM 1 (some id) b) fun q=>ret (cpyX E i id off m d r q)
 | _=>fail
def copyM (E:Env) (i:Nat) (g:OG) (d:Nat) (t:TypeId) (x y:Operand):M Eff:=match look E.bs i with
 | some (.box _ _)=>copyBM E i g d t x y
 | _=>copyRM E i g d t x y
theorem BlkEqv.row_ext {e:TypeId} {sz n n':Nat} {f f':Nat→Nat→Cell} (hn:n=n') (hf:∀ i,i<n→∀ j,j<sz→f i j=f' i j):BlkEqv (.row e sz n f) (.row e sz n' f'):=by
 subst hn
 refine ⟨fun D ρ id w h => ?_,fun S h=>trivial⟩
 rcases h with h | ⟨vs,fz,h1,h2,h3,h4,h5,h6,h7,h8⟩
 ·exact .inl h
 ·exact .inr ⟨vs,fz,h1,h2,h3,h4,h5,h6,h7,fun i hi j hj=>by rw [← hf i hi j hj];exact h8 i hi j hj⟩
theorem inR64 {n:Int} (h1 : -9223372036854775808≤n) (h2:n≤9223372036854775807):inR .i64 n:=⟨h1,h2⟩
theorem Sat.turnB {Γ:Ctx} {S W:Nat→Prop} {D:Dat} {ρ:Rho} {st:St} {a:Act} {w:World} (h:Sat Γ S W D ρ st a w) {id:Nat} {b b':Blk} (hb:look st.hp id=some b) (he:BlkEqv b b'):Sat Γ S W D ρ (st.set (.bk id) (.bk b')) a w:=by
 have hl:∀ k,look (st.set (.bk id) (.bk b')).hp k=if id=k then some b' else look st.hp k:=fun k=>look_put _ _ _ _
 have key:∀ i c,look (st.set (.bk id) (.bk b')).hp i=some c→Live ρ i c→∃ c0,look st.hp i=some c0∧Live ρ i c0:=by
  intro i c hc lc
  rw [hl] at hc
  by_cases e:id=i
  ·exact ⟨b,e▸hb,lc⟩
  ·rw [if_neg e] at hc;exact ⟨c,hc,lc⟩
 refine { h with tm:=h.tm,hp := ?_,inj := ?_,sep := ?_,own := ?_,idT:=h.idT,idH := ?_ }
 ·intro i c hc
  rw [hl] at hc
  by_cases e:id=i
  ·subst e;rw [if_pos rfl] at hc;simp only [Option.some.injEq] at hc;subst hc;exact he.1 _ _ _ _ (h.hp _ _ hb)
  ·rw [if_neg e] at hc;exact h.hp i c hc
 ·intro i j bi bj hi hj li lj hij
  obtain ⟨ci,hi,li⟩:=key i bi hi li
  obtain ⟨cj,hj,lj⟩:=key j bj hj lj
  exact h.inj i j ci cj hi hj li lj hij
 ·intro i c hc lc
  obtain ⟨c0,hc0,l0⟩:=key i c hc lc
  exact h.sep i c0 hc0 l0
 ·intro i c hc lc
  obtain ⟨c0,hc0,l0⟩:=key i c hc lc
  exact h.own i c0 hc0 l0
 ·intro i c hc
  rw [hl] at hc
  by_cases e:id=i
  ·subst e;rw [if_pos rfl] at hc;simp only [Option.some.injEq] at hc;subst hc;exact ⟨(h.idH _ _ hb).1,he.2 _ (h.idH _ _ hb).2⟩
  ·rw [if_neg e] at hc;exact h.idH i c hc
theorem BlkEqv.trans {b c e:Blk} (h1:BlkEqv b c) (h2:BlkEqv c e):BlkEqv b e:=⟨fun D ρ id w h=>h2.1 D ρ id w (h1.1 D ρ id w h),fun S h=>h2.2 S (h1.2 S h)⟩
section
variable {Γ:Ctx} {S W:Nat→Prop} {D:Dat} {ρ:Rho} {st:St} {a:Act} {w:World} {E:Env} {i d nid:Nat} {g:OG} {eff:Eff}
theorem row_new (h:Sat Γ S W D ρ st a w) (hfr:Fresh S nid) (hd:d<Γ.N) (hnd:¬ W d) {el sz n cap:Nat} {f:Nat→Nat→Cell} {arr:Array Value} {fz:Nat×Nat} {vc:List Prop} (hsz:0<sz)
  (h1:arr.size=cap*sz) (hc:clear fz arr.size) (hn:n≤cap) (hm:cap≤maxLen) (hone:∀ (j:Nat) (u:Value),arr[j]?=some u→one u)
  (hden:∀ i,i<n→∀ j,j<sz→∃ u,arr[i*sz+j]?=some u∧Den D rho0 (f i j) u) (hvc:∀ p∈(newR E i el sz nid d n f vc).vc,p) :
  SatE Γ (sPlus S nid) (fun t=>W t∨some d=some t) (st.sets (newR E i el sz nid d n f vc).wr) (a.put (some d) (.slice (some ⟨w.heap.size,0,none⟩) n cap)) { w with heap:=w.heap.push (.cells arr el fz) }:=by
 obtain ⟨k1,k2⟩:=blkOf_sat (E:=E) (i:=i) (b := .row el sz n f) (fun p hp=>hvc p (by simp [newR,hp]))
 have hnS:¬ S nid:=hfr nid (Nat.le_refl _) oM
 have hrn:∀ pr:Nat×Nat,rhoSet ρ nid pr nid=pr:=by intro pr;simp [rhoSet]
 have inB:(Blk.row el sz n f).inS S:=trivial
 have hBS:BlkSat D (rhoSet ρ nid (w.heap.size,cap)) nid { w with heap:=w.heap.push (.cells arr el fz) } (blkOf E i (.row el sz n f)).1:=by
  refine k1 _ _ _ _ (.inr ⟨arr,fz,by rw [hrn];exact push_new _ _,by rw [hrn];exact h1,hc,by rw [hrn];exact hn,by rw [hrn];exact hm,hsz,hone,hden⟩)
 have hs:=(h.new hfr hBS (k2 S inB)).put (W':=fun t=>W t∨some d=some t) hd hnd (fun t ht => .inl ht) (v := .v (.c (.row sz nid 0 n)))
  (u := .slice (some ⟨w.heap.size,0,none⟩) n cap) (.inl ⟨0,by simp [rhoSet],by simp only [Nat.zero_add];exact Nat.le_trans hn (Nat.le_of_eq (by rw [hrn])),.inl (by simp)⟩) (.inr ⟨Nat.le_refl _,by omega⟩)
 exact ⟨D,_,hs⟩
theorem p1_g {u:Unit} {L:Key→Option KV} (h:(pure1 g).Ev L u):g=none:=by
 cases g with
 | none=>rfl
 | some gd=>simp [pure1,ev_fail] at h
theorem toByt_ok (hP:E.P=Γ.P) (hG:E.G=Γ.G) (h:Sat Γ S W D ρ st a w) (hfr:Fresh S nid) (hd:d<Γ.N) (hnd:¬ W d) {s t e:TypeId} (hs:Γ.P.underlying s=some .string) (ht:Γ.P.underlying t=some (.slice e)) {x:Operand}
  (hf:(toBytM E i nid g d e x).Ev st.get eff) (hvc:∀ p∈eff.vc,p):g=none∧EffOk Γ S W st a w (some d) nid eff (convert s t (a.eval x)):=by
 simp only [toBytM,ev_bind,ev_guard,ev_ret] at hf
 obtain ⟨_,hg1,v,hv,sv,hsv,_,he,rfl⟩:=hf
 refine ⟨p1_g hg1,?_⟩
 rw [hP] at he
 have hgo:GdOk W none a:=by intro gd e;cases e
 have hex:Exec none a:=by intro gd e;cases e
 have d1:=opd_den hG h hgo hex hv
 have hvv:v = .c (.str sv):=by
  unfold strOfM at hsv
  split at hsv
  ·simp only [ev_ret] at hsv;rw [hsv]
  ·simp [ev_fail] at hsv
 subst hvv
 have d1:a.eval x = .string ⟨sv.toArray⟩:=d1
 have hu:Γ.P.underlying e=some (.int .u8):=by
  obtain ⟨dd,h1,h2⟩:=tIs_run he
  cases dd<;>simp [isByteD] at h2
  rw [← kEq_eq h2];exact h1
 have hl:sv.length≤140737488355328:=hvc _ (by simp [newR])
 have hsz:(⟨sv.toArray⟩:ByteArray).size=sv.length:=size_mk sv
 refine ⟨_,_,by rw [d1];exact run_bytes_of_string w s t e _ hs ht hu,?_⟩
 rw [hsz]
 have hge:=grownCap_ge w sv.length 0 e
 have hcm:=grownCap_le_maxLen w sv.length 0 e (by unfold maxLen;omega)
 have hbs:∀ c,(bytesRow ⟨sv.toArray⟩ c).size=sv.length+(c-sv.length):=by
  intro c;simp [bytesRow,hsz]
 have hget:∀ c k,k<sv.length→(bytesRow ⟨sv.toArray⟩ c)[k]?=some (.int .u8 ((sv.getD k 0).toNat:Int)):=by
  intro c k hk
  simp [bytesRow,Array.getElem?_append,hk,List.getD]
 exact row_new (w:=w.drew) h.drewn hfr hd hnd (vc:=[sv.length≤140737488355328]) oM (by rw [hbs];omega) (fun o ho=>by omega) hge hcm (fun j u hj=>by
   simp only [bytesRow,Array.getElem?_append] at hj
   split at hj
   ·simp only [Array.getElem?_map,Option.map_eq_some_iff] at hj
    obtain ⟨_,_,rfl⟩:=hj
    trivial
   ·have:=Array.mem_of_getElem? hj
    simp only [Array.mem_replicate] at this
    rw [this.2];trivial)
  (fun k hk j hj=>by
   obtain rfl:j=0:=by omega
   exact ⟨_,by rw [Nat.mul_one,Nat.add_zero];exact hget _ k hk,rfl⟩) hvc
theorem made_get (z:Array Value) (n k:Nat) (hk:k<n):(madeCells z n)[k]?=some z[k%z.size]!:=by
 simp [madeCells,hk]
theorem mkSlice_ok (hP:E.P=Γ.P) (hG:E.G=Γ.G) (h:Sat Γ S W D ρ st a w) (hfr:Fresh S nid) (hd:d<Γ.N) (hnd:¬ W d) {t:TypeId} {x y:Operand}
  (hf:(mkSliceM E i nid g d t x y).Ev st.get eff) (hvc:∀ p∈eff.vc,p):g=none∧EffOk Γ S W st a w (some d) nid eff (Instr.makeSlice t (a.eval x) (a.eval y)):=by
 simp only [mkSliceM,ev_bind,ev_opt,ev_guard,ev_ret] at hf
 obtain ⟨_,hg1,v,hv,n1,hn1,v2,hv2,n2,hn2,el,hel,sz,hsz,bytes,hby,z,hz,_,hb,rfl⟩:=hf
 refine ⟨p1_g hg1,?_⟩
 have hgo:GdOk W none a:=by intro gd e;cases e
 have hex:Exec none a:=by intro gd e;cases e
 have d1:=opd_den hG h hgo hex hv
 have d2:=opd_den hG h hgo hex hv2
 rw [int_ev hn1] at d1
 rw [int_ev hn2] at d2
 have d1:a.eval x = .int n1.1 n1.2:=d1
 have d2:a.eval y = .int n2.1 n2.2:=d2
 rw [hP] at hel hsz hz hby
 obtain ⟨hb1,hb⟩:=bAnd_eq hb
 obtain ⟨hb2,hb⟩:=bAnd_eq hb
 obtain ⟨hb3,hb4⟩:=bAnd_eq hb
 have hb1:0<sz:=Nat.le_of_ble_eq_true hb1
 have hb2:0<bytes:=Nat.le_of_ble_eq_true hb2
 have hb3:=(beq_eq _ _).1 hb3
 rw [len_eq] at hb3
 have hu:Γ.P.underlying t=some (.slice el):=by
  unfold tElem at hel
  split at hel
  ·rename_i e hh;simp only [Option.some.injEq] at hel;subst hel;exact hh
  ·cases hel
 obtain ⟨inf,hinf,rfl⟩:∃ inf,Γ.P.info? el=some inf∧inf.size=sz:=by
  unfold tSize at hsz
  split at hsz
  ·rename_i inf hh;simp only [Option.some.injEq] at hsz;exact ⟨inf,hh,hsz⟩
  ·cases hsz
 have hby:inf.bytes=bytes:=by unfold tBytes at hby;rw [hinf] at hby;simpa using hby
 subst hby
 obtain ⟨zv,hzr,hzd,hzi⟩:=zero_run hz D rho0 w
 have hzv:inf.zero=some zv:=by
  unfold tZero at hz
  rw [hinf] at hz
  simp only at hz
  cases hh:inf.zero with
  | none=>rw [hh] at hz; cases hz
  | some z'=>simp [zeroValue,typeInfo,hinf,hh] at hzr; rw [hzr]
 have zsz:zv.cells.size=inf.size:=by rw [hzd.1,hb3]
 have v1:0≤n1.2:=hvc _ (by simp [newR])
 have v2':n1.2≤n2.2:=hvc _ (by simp [newR])
 have v3:n2.2*(inf.bytes:Int)≤140737488355328:=hvc _ (by simp [newR])
 have h63:n2.2≤140737488355328:=by
  have h0:(1:Int)≤(inf.bytes:Int):=by omega
  have:=Int.mul_le_mul_of_nonneg_left h0 (show (0:Int)≤n2.2 by omega)
  omega
 have hr:=run_make (P:=Γ.P) w t el inf zv hu hinf hzv n1.1 n2.1 n1.2 n2.2 v1 v2' (by rw [Int.mul_comm];omega) oM
 refine ⟨_,_,by rw [d1,d2];exact hr,?_⟩
 have msz:=size_madeCells zv.cells (n2.2.toNat*inf.size)
 have mget:∀ k,k<n2.2.toNat*inf.size→∃ u,(madeCells zv.cells (n2.2.toNat*inf.size))[k]?=some u∧Den D rho0 (nthD z (k%inf.size)) u:=by
  intro k hk
  have hlt:k%inf.size<z.length:=by rw [hb3];exact Nat.mod_lt _ hb1
  obtain ⟨u,hu,hdn⟩:=nth_rel hzd hlt
  refine ⟨u,?_,hdn⟩
  rw [made_get _ _ _ hk,zsz,getElem!_def,hu]
 exact row_new (vc:=[0≤n1.2,n1.2≤n2.2,n2.2*(inf.bytes:Int)≤140737488355328]) h hfr hd hnd hb1 msz (clear00 _) oM (by unfold maxLen;omega) (fun j u hj=>by
   have hj':j<n2.2.toNat*inf.size:=by
    rw [← msz]
    rcases Nat.lt_or_ge j (madeCells zv.cells (n2.2.toNat*inf.size)).size with h | h
    ·exact h
    ·simp [Array.getElem?_eq_none h] at hj
   obtain ⟨u',hu',hdn⟩:=mget j hj'
   rw [hj] at hu'
   simp only [Option.some.injEq] at hu'
   subst hu'
   exact hdn.one)
  (fun k hk j hj=>by
   have hlt:k*inf.size+j<n2.2.toNat*inf.size:=mul_lt oM hj
   obtain ⟨u,hu,hdn⟩:=mget _ hlt
   refine ⟨u,hu,?_⟩
   have:(k*inf.size+j)%inf.size=j:=by
    rw [Nat.mul_comm,Nat.mul_add_mod];exact Nat.mod_eq_of_lt hj
   rw [this] at hdn
   exact hdn) hvc
theorem copy_run {P:Program} {t t2 ty el sz:Nat} {v:Value} {n m cap:Nat} {b:Option Addr} {news:Array Value} (ht:P.underlying t=some (.slice el)) (hsz:tSize P el=some sz)
  (hl:(Builtin.lenOf v).run P w = .ok n w) (hf:(Builtin.firstCells sz n v).run P w = .ok news w) (hr:n≤m) :
  (Builtin.copy_ #[t,t2] ty #[.slice b m cap,v]).run P w=(match b with | some a=>do storeCells a news.toList;pure (goInt n) | none=>(pure (goInt n):Sem Value)).run P w:=by
 have hmin:Nat.min n m=n:=Nat.min_eq_left hr
 have hs:=tSize_run hsz w
 simp [Builtin.copy_,run_underlying ht,hl,hmin,hs,hf]
 cases b<;>rfl
theorem copyR_ok (hP:E.P=Γ.P) (hG:E.G=Γ.G) (h:Sat Γ S W D ρ st a w) (hd:d<Γ.N) (hnd:¬ W d) {t t2 ty:TypeId} {x y:Operand}
  (hf:(copyRM E i g d t x y).Ev st.get eff) (hvc:∀ p∈eff.vc,p):g=none∧EffOk Γ S W st a w (some d) nid eff (Builtin.copy_ #[t,t2] ty #[a.eval x,a.eval y]):=by
 simp only [copyRM,ev_bind,ev_opt,ev_guard] at hf
 obtain ⟨_,hg1,v,hv,c,hc,v2,hv2,c2,hc2,el,hel,sz,hsz,_,hb1,hf⟩:=hf
 refine ⟨p1_g hg1,?_⟩
 have:=cell_ev hc
 subst this
 have:=cell_ev hc2
 subst this
 rw [hP] at hel hsz
 have hb1:0<sz:=Nat.le_of_ble_eq_true hb1
 have hu:Γ.P.underlying t=some (.slice el):=by
  unfold tElem at hel
  split at hel
  ·rename_i e hh;simp only [Option.some.injEq] at hel;subst hel;exact hh
  ·cases hel
 have hex:Exec none a:=by intro gd e;cases e
 have hgo:GdOk W none a:=by intro gd e;cases e
 have d1:=opd_den hG h hgo hex hv
 have d2:=opd_den hG h hgo hex hv2
 have i2:=opd_inS hG h hv2
 split at hf
 ·rename_i s id off m
  simp only [ev_bind,ev_guard,ev_ret] at hf
  obtain ⟨_,hs,r,hr,_,hg2,q,hq,rfl⟩:=hf
  have hs:=(beq_eq _ _).1 hs
  subst hs
  obtain ⟨hg2,hg3⟩:=bAnd_eq hg2
  have hg2:=(beq_eq _ _).1 hg2
  have hg3:=(beq_eq _ _).1 hg3
  have hrow:=row_ev hr
  obtain ⟨re,rs,rn,rf⟩:=r
  simp only [cpyB] at hg2 hg3 hrow hvc ⊢
  subst hg2 hg3
  have vn:q.n≤m:=hvc _ (by simp)
  have vm:off+m≤rn:=hvc _ (by simp)
  have vq:∀ x∈q.vc,x:=fun x hx=>hvc x (by simp [hx])
  obtain ⟨k1,k2⟩:=blkOf_sat (E:=E) (i:=i) (b := .row re rs rn (cpyF off q.n rf q.f)) (fun x hx=>hvc x (by simp [hx]))
  obtain ⟨hl,⟨news,hea,hfc⟩⟩:=src_run h hq vq d2 i2
  have heqv:BlkEqv (.row re rs rn (cpyF off q.n rf q.f)) (blkOf E i (.row re rs rn (cpyF off q.n rf q.f))).1:=⟨k1,k2⟩
  have fin:∀ w',Sat Γ S W D ρ (st.set (.bk id) (.bk (blkOf E i (.row re rs rn (cpyF off q.n rf q.f))).1)) a w' →
    SatE Γ (sPlus S nid) (fun t=>W t∨some d=some t) (st.sets [(.bk id,.bk (blkOf E i (.row re rs rn (cpyF off q.n rf q.f))).1),(.tm d,.tv (.v (.c (.int .i64 (q.n:Int)))))]) (a.put (some d) (goInt q.n)) w':=by
   intro w' hs
   refine ⟨D,ρ,?_⟩
   exact (hs.put (W':=fun t=>W t∨some d=some t) hd hnd (fun t ht => .inl ht) (v := .v (.c (.int .i64 (q.n:Int)))) (u:=goInt q.n) rfl trivial).mono (fun _ h => .inl h) (fun _ h=>h)
  have d1':Den D ρ (.row rs id off m) (a.eval x):=d1
  simp only [Den] at d1'
  by_cases h0:q.n=0
  ·have hnews:news=#[]:=by
    have:=hea.1
    rw [h0,Nat.zero_mul] at this
    exact Array.eq_empty_of_size_eq_zero this
   have hval:∃ ad cap,a.eval x = .slice ad m cap:=by
    rcases d1' with ⟨o,e1,_⟩ | ⟨_,_,e3,ad,_,e1⟩
    ·exact ⟨_,_,e1⟩
    ·exact ⟨ad,0,by rw [e1,e3]⟩
   obtain ⟨ad,cap,e1⟩:=hval
   refine ⟨goInt q.n,w,?_,fin w ?_⟩
   ·rw [e1,copy_run hu hsz hl (hfc w rfl) vn,hnews]
    cases ad<;>simp [storeCells]
   ·refine h.turnB hrow (BlkEqv.trans (BlkEqv.row_ext rfl fun k hk j hj => ?_) heqv)
    unfold cpyF
    split
    ·rfl
    ·rw [if_neg oM]
  ·rcases d1' with ⟨o,e1,h1,h2⟩ | ⟨_,_,h1,_⟩
   ·have ho:o=off*rs:=h2.resolve_right oM
    subst ho
    rcases h.hp id _ hrow with hbk | ⟨vs,fz,q1,q2,q3,q4,q5,q6,q7,q8⟩
    ·omega
    ·have hlv:Live ρ id (.row re rs rn rf):=by show (ρ id).2≠0;omega
     have hfit:off*rs+0+news.toList.length≤vs.size:=by
      rw [q2]
      have:(off+q.n)*rs≤(ρ id).2*rs:=Nat.mul_le_mul_right _ oM
      rw [Nat.add_mul] at this
      have:=hea.1
      simp only [Array.length_toList]
      omega
     obtain ⟨w',arr',r1,r2,r3,r4⟩:=storeCells_run (P:=Γ.P) (off*rs) news.toList 0 w vs q1 q3 hfit hea.one
     refine ⟨goInt q.n,w',?_,fin w' ?_⟩
     ·rw [e1,copy_run hu hsz hl (hfc w rfl) vn]
      simp only [Sem.run_bind,r1,Result.andThen_ok,Sem.run_pure]
     ·refine h.upd hrow hlv r2 (heqv.1 _ _ _ _ (.inr ⟨arr',fz,r2.at_,by rw [r3];exact q2,by rw [r3];exact q3,q4,q5,q6,?_,?_⟩)) (heqv.2 _ trivial)
      ·intro j u hj
       rw [r4] at hj
       split at hj
       ·exact hea.one u (by have:=List.mem_of_getElem? hj;simpa using this)
       ·exact q7 j u hj
      ·intro k hk j hj
       have e3:=hea.1
       by_cases hlo:k<off
       ·obtain ⟨u,hu,hdn⟩:=q8 k hk j hj
        refine ⟨u,?_,by simp only [cpyF,hlo,if_true];exact hdn⟩
        rw [r4,if_neg]
        ·exact hu
        ·have:=mul_lt hlo hj;omega
       ·by_cases hhi:k<off+q.n
        ·obtain ⟨u,hu,hdn⟩:=hea.2 (k-off) oM j hj
         refine ⟨u,?_,by simp only [cpyF,hlo,hhi,if_true,if_false];exact hdn⟩
         have e1:k*rs=off*rs+(k-off)*rs:=by rw [← Nat.add_mul];congr 1;omega
         have e2:=mul_lt (show k-off<q.n by omega) hj
         rw [r4,if_pos (by simp only [Array.length_toList,Nat.add_zero];omega),Nat.add_zero]
         have:k*rs+j-off*rs=(k-off)*rs+j:=by omega
         rw [this];simpa using hu
        ·obtain ⟨u,hu,hdn⟩:=q8 k hk j hj
         refine ⟨u,?_,by simp only [cpyF,hlo,hhi,if_false];exact hdn⟩
         rw [r4,if_neg]
         ·exact hu
         ·have:(off+q.n)*rs≤k*rs:=Nat.mul_le_mul_right _ oM
          rw [Nat.add_mul] at this
          simp only [Array.length_toList]
          omega
   ·omega
 ·simp [ev_fail] at hf
theorem cpyL_get {off n j:Nat} {f:Nat→Nat→Cell} {cs:List Cell}:(cpyL off n f cs)[j]?=if j<cs.length then some (if j<off then nthD cs j else if j<off+n then f (j-off) 0 else nthD cs j) else none:=by
 simp only [cpyL,upL_get,len_eq,Nat.zero_add]
theorem nthD_get {cs:List Cell} {j:Nat} (h:j<cs.length):cs[j]?=some (nthD cs j):=by
 have e:cs[j]?=some cs[j]:=by simp [h]
 simp only [nthD,nth_eq,e]
theorem copyB_ok (hP:E.P=Γ.P) (hG:E.G=Γ.G) (h:Sat Γ S W D ρ st a w) (hd:d<Γ.N) (hnd:¬ W d) {t t2 ty:TypeId} {x y:Operand}
  (hf:(copyBM E i g d t x y).Ev st.get eff) (hvc:∀ p∈eff.vc,p):g=none∧EffOk Γ S W st a w (some d) nid eff (Builtin.copy_ #[t,t2] ty #[a.eval x,a.eval y]):=by
 simp only [copyBM,ev_bind,ev_opt,ev_guard] at hf
 obtain ⟨_,hg1,v,hv,c,hc,v2,hv2,c2,hc2,el,hel,sz,hsz,_,hb1,hf⟩:=hf
 refine ⟨p1_g hg1,?_⟩
 have:=cell_ev hc
 subst this
 have:=cell_ev hc2
 subst this
 rw [hP] at hel hsz
 have hb1:=(beq_eq _ _).1 hb1
 subst hb1
 have hu:Γ.P.underlying t=some (.slice el):=by
  unfold tElem at hel
  split at hel
  ·rename_i e hh;simp only [Option.some.injEq] at hel;subst hel;exact hh
  ·cases hel
 have hex:Exec none a:=by intro gd e;cases e
 have hgo:GdOk W none a:=by intro gd e;cases e
 have d1:=opd_den hG h hgo hex hv
 have d2:=opd_den hG h hgo hex hv2
 have i2:=opd_inS hG h hv2
 split at hf
 ·rename_i s id off m
  simp only [ev_bind,ev_guard,ev_ret] at hf
  obtain ⟨_,hs,r,hr,q,hq,rfl⟩:=hf
  have hs:=(beq_eq _ _).1 hs
  subst hs
  have hbox:=bx_ev hr
  obtain ⟨re,rf⟩:=r
  simp only [cpyX] at hbox hvc ⊢
  have vn:q.n≤m:=hvc _ (by simp)
  have vm:off+m≤len rf:=hvc _ (by simp)
  have vf:∀ k,k<q.n→(q.f k 0).flat=true:=hvc _ (by simp)
  rw [len_eq] at vm
  have vq:∀ x∈q.vc,x:=fun x hx=>hvc x (by simp [hx])
  obtain ⟨k1,k2⟩:=blkOf_sat (E:=E) (i:=i) (b := .box re (cpyL off q.n q.f rf)) (fun x hx=>hvc x (by simp [hx]))
  obtain ⟨hl,⟨news,hea,hfc⟩⟩:=src_run h hq vq d2 i2
  have heqv:BlkEqv (.box re (cpyL off q.n q.f rf)) (blkOf E i (.box re (cpyL off q.n q.f rf))).1:=⟨k1,k2⟩
  have clen:(cpyL off q.n q.f rf).length=rf.length:=by simp only [cpyL,upL_len,len_eq]
  have hin:=(h.idH id _ hbox).2
  have cin:(Blk.box re (cpyL off q.n q.f rf)).inS S:=by
   intro j y hj
   rw [cpyL_get] at hj
   split at hj
   ·rename_i hlt
    simp only [Option.some.injEq] at hj
    subst hj
    split
    ·exact hin j _ (nthD_get hlt)
    ·split
     ·exact Cell.inS_flat (vf _ oM)
     ·exact hin j _ (nthD_get hlt)
   ·cases hj
  have fin:∀ w',Sat Γ S W D ρ (st.set (.bk id) (.bk (blkOf E i (.box re (cpyL off q.n q.f rf))).1)) a w' →
    SatE Γ (sPlus S nid) (fun t=>W t∨some d=some t) (st.sets [(.bk id,.bk (blkOf E i (.box re (cpyL off q.n q.f rf))).1),(.tm d,.tv (.v (.c (.int .i64 (q.n:Int)))))]) (a.put (some d) (goInt q.n)) w':=by
   intro w' hs
   refine ⟨D,ρ,?_⟩
   exact (hs.put (W':=fun t=>W t∨some d=some t) hd hnd (fun t ht => .inl ht) (v := .v (.c (.int .i64 (q.n:Int)))) (u:=goInt q.n) rfl trivial).mono (fun _ h => .inl h) (fun _ h=>h)
  have d1':Den D ρ (.row 1 id off m) (a.eval x):=d1
  simp only [Den] at d1'
  by_cases h0:q.n=0
  ·have hnews:news=#[]:=by
    have:=hea.1
    rw [h0,Nat.zero_mul] at this
    exact Array.eq_empty_of_size_eq_zero this
   have hval:∃ ad cap,a.eval x = .slice ad m cap:=by
    rcases d1' with ⟨o,e1,_⟩ | ⟨_,_,e3,ad,_,e1⟩
    ·exact ⟨_,_,e1⟩
    ·exact ⟨ad,0,by rw [e1,e3]⟩
   obtain ⟨ad,cap,e1⟩:=hval
   have hsame:cpyL off q.n q.f rf=rf:=by
    apply List.ext_getElem?
    intro j
    rw [cpyL_get]
    split
    ·rename_i hlt
     rw [nthD_get hlt]
     split
     ·rfl
     ·rw [if_neg oM]
    ·rename_i hlt;simp [List.getElem?_eq_none (Nat.le_of_not_lt hlt)]
   refine ⟨goInt q.n,w,?_,fin w ?_⟩
   ·rw [e1,copy_run hu hsz hl (hfc w rfl) vn,hnews]
    cases ad<;>simp [storeCells]
   ·exact h.turnB hbox (by rw [hsame] at heqv ⊢;exact heqv)
  ·obtain ⟨q0,vs,fz,q1,q2,q3,q4⟩:=h.hp id _ hbox
   have hρ:(ρ id).2=rf.length:=by rw [q0];exact Nat.max_eq_right oM
   rcases d1' with ⟨o,e1,h1,h2⟩ | ⟨_,_,h1,_⟩
   ·have ho:o=off:=by rcases h2 with h2 | h2<;>omega
    subst ho
    have hfit:o+0+news.toList.length≤vs.size:=by
     have:=hea.1
     simp only [Array.length_toList]
     omega
    have hone:∀ u∈news.toList,one u:=by
     intro u hu
     obtain ⟨k,hk,rfl⟩:=List.mem_iff_getElem.1 hu
     have hk':k<q.n:=by have:=hea.1;simp at hk;omega
     obtain ⟨u,hu,hdn⟩:=hea.2 k hk' 0 oM
     have:news.toList[k]?=some u:=by simpa using hu
     rw [List.getElem?_eq_getElem hk] at this
     simp only [Option.some.injEq] at this
     rw [this];exact hdn.one
    obtain ⟨w',arr',r1,r2,r3,r4⟩:=storeCells_run (P:=Γ.P) o news.toList 0 w vs q1 q3 hfit hone
    refine ⟨goInt q.n,w',?_,fin w' ?_⟩
    ·rw [e1,copy_run hu hsz hl (hfc w rfl) vn]
     simp only [Sem.run_bind,r1,Result.andThen_ok,Sem.run_pure]
    ·refine h.upd hbox (max1_ne q0) r2 (heqv.1 _ _ _ _ ⟨by rw [q0,clen],arr',fz,r2.at_,by rw [r3,clen];exact q2,by rw [r3];exact q3,fun j y hj => ?_⟩) (heqv.2 _ cin)
     have e3:=hea.1
     rw [cpyL_get] at hj
     split at hj
     ·rename_i hlt
      simp only [Option.some.injEq] at hj
      subst hj
      rw [r4]
      simp only [Array.length_toList,Nat.add_zero]
      by_cases hlo:j<o
      ·rw [if_pos hlo,if_neg oM];exact q4 j _ (nthD_get hlt)
      ·rw [if_neg hlo]
       by_cases hhi:j<o+q.n
       ·rw [if_pos hhi,if_pos oM]
        obtain ⟨u,hu,hdn⟩:=hea.2 (j-o) oM 0 oM
        refine ⟨u,by simpa using hu,Den.flat (vf _ oM) hdn⟩
       ·rw [if_neg hhi,if_neg oM];exact q4 j _ (nthD_get hlt)
     ·cases hj
   ·omega
 ·simp [ev_fail] at hf
theorem copy_ok (hP:E.P=Γ.P) (hG:E.G=Γ.G) (h:Sat Γ S W D ρ st a w) (hd:d<Γ.N) (hnd:¬ W d) {t t2 ty:TypeId} {x y:Operand}
  (hf:(copyM E i g d t x y).Ev st.get eff) (hvc:∀ p∈eff.vc,p):g=none∧EffOk Γ S W st a w (some d) nid eff (Builtin.copy_ #[t,t2] ty #[a.eval x,a.eval y]):=by
 unfold copyM at hf
 split at hf
 ·exact copyB_ok hP hG h hd hnd hf hvc
 ·exact copyR_ok hP hG h hd hnd hf hvc
end
end Go.Sv
end
section
namespace Go.Sv
open M
def appIn (E:Env) (i el sz id m n d:Nat) (f:Nat→Nat→Cell) (q:Els):Eff :=
 ⟨[(.bk id,.bk (blkOf E i (.row el sz n (cpyF m q.n f q.f))).1),(.tm d,.tv (.v (.c (.row sz id 0 (m+q.n)))))],(m+q.n≤n)::((blkOf E i (.row el sz n (cpyF m q.n f q.f))).2++q.vc)⟩
def appInM (E:Env) (i:Nat) (g:OG) (d:Nat) (t t2:TypeId) (x y:Operand):M Eff :=
 bind (pure1 g) fun _=>bind (opdM E none x) fun v=>bind (cellM v) fun c=>bind (opdM E none y) fun u=>bind (cellM u) fun b =>
 bind (opt (tElem E.P t)) fun el=>bind (opt (tSize E.P el)) fun sz=>bind (guard (bAnd (Nat.blt 0 sz) (notInt E.P t2))) fun _ =>
 match c with
 | .row s id off m=>bind (guard (bAnd (Nat.beq s sz) (Nat.beq off 0))) fun _=>bind (rowM id) fun r=>bind (guard (bAnd (Nat.beq r.1 el) (Nat.beq r.2.1 sz))) fun _ =>
   bind (srcM sz none b) fun q=>ret (appIn E i el sz id m r.2.2.1 d r.2.2.2 q)
 | _=>fail
def jnkW:Option Nat→List (Key×KV)
 | some d=>[(.tm d,.tv .junk)]
 | none=>[]
def clrB (E:Env) (i el sz id off m n:Nat) (d:Option Nat) (f:Nat→Nat→Cell) (z:List Cell):Eff :=
 ⟨(.bk id,.bk (blkOf E i (.row el sz n (cpyF off m f (fun _ j=>nthD z j)))).1)::(jnkW d),(off+m≤n)::(blkOf E i (.row el sz n (cpyF off m f (fun _ j=>nthD z j)))).2⟩
def clearM (E:Env) (i:Nat) (g:OG) (d:Option Nat) (t:TypeId) (x:Operand):M Eff :=
 bind (pure1 g) fun _=>bind (opdM E none x) fun v=>bind (cellM v) fun c =>
 bind (opt (tElem E.P t)) fun el=>bind (opt (tSize E.P el)) fun sz=>bind (opt (tZero E.P el)) fun z=>bind (guard (bAnd (Nat.blt 0 sz) (bAnd (Nat.beq (len z) sz) (flats z)))) fun _ =>
 match c with
 | .row s id off m=>bind (guard (Nat.beq s sz)) fun _=>bind (rowM id) fun r=>bind (guard (bAnd (Nat.beq r.1 el) (Nat.beq r.2.1 sz))) fun _ =>
   ret (clrB E i el sz id off m r.2.2.1 d r.2.2.2 z)
 | _=>fail
section
variable {Γ:Ctx} {S W:Nat→Prop} {D:Dat} {ρ:Rho} {st:St} {a:Act} {w:World} {E:Env} {i d nid:Nat} {g:OG} {eff:Eff}
theorem row_over (h:Sat Γ S W D ρ st a w) {id el sz n off m:Nat} {f q:Nat→Nat→Cell} {news:Array Value} (hrow:look st.hp id=some (.row el sz n f)) (hb1:0<sz) (hm0:m≠0) (hm:off+m≤n) (hea:EA D rho0 sz m q news)
  (hne:(ρ id).2≠0) {b':Blk} (he:BlkEqv (.row el sz n (cpyF off m f q)) b') :
  ∃ w',(storeCells ⟨(ρ id).1,off*sz,none⟩ news.toList).run Γ.P w = .ok () w'∧Sat Γ S W D ρ (st.set (.bk id) (.bk b')) a w':=by
 rcases h.hp id _ hrow with hbk | ⟨vs,fz,q1,q2,q3,q4,q5,q6,q7,q8⟩
 ·exact (hne hbk.1).elim
 ·have hlv:Live ρ id (.row el sz n f):=hne
  have hfit:off*sz+0+news.toList.length≤vs.size:=by
   rw [q2]
   have:(off+m)*sz≤(ρ id).2*sz:=Nat.mul_le_mul_right _ oM
   rw [Nat.add_mul] at this
   have:=hea.1
   simp only [Array.length_toList]
   omega
  obtain ⟨w',arr',r1,r2,r3,r4⟩:=storeCells_run (P:=Γ.P) (off*sz) news.toList 0 w vs q1 q3 hfit hea.one
  refine ⟨w',r1,h.upd hrow hlv r2 (he.1 _ _ _ _ (.inr ⟨arr',fz,r2.at_,by rw [r3];exact q2,by rw [r3];exact q3,q4,q5,q6,?_,?_⟩)) (he.2 _ trivial)⟩
  ·intro j u hj
   rw [r4] at hj
   split at hj
   ·exact hea.one u (by have:=List.mem_of_getElem? hj;simpa using this)
   ·exact q7 j u hj
  ·intro k hk j hj
   have e3:=hea.1
   by_cases hlo:k<off
   ·obtain ⟨u,hu,hdn⟩:=q8 k hk j hj
    refine ⟨u,?_,by simp only [cpyF,hlo,if_true];exact hdn⟩
    rw [r4,if_neg]
    ·exact hu
    ·have:=mul_lt hlo hj;omega
   ·by_cases hhi:k<off+m
    ·obtain ⟨u,hu,hdn⟩:=hea.2 (k-off) oM j hj
     refine ⟨u,?_,by simp only [cpyF,hlo,hhi,if_true,if_false];exact hdn⟩
     have e1:k*sz=off*sz+(k-off)*sz:=by rw [← Nat.add_mul];congr 1;omega
     have e2:=mul_lt (show k-off<m by omega) hj
     rw [r4,if_pos (by simp only [Array.length_toList,Nat.add_zero];omega),Nat.add_zero]
     have:k*sz+j-off*sz=(k-off)*sz+j:=by omega
     rw [this];simpa using hu
    ·obtain ⟨u,hu,hdn⟩:=q8 k hk j hj
     refine ⟨u,?_,by simp only [cpyF,hlo,hhi,if_false];exact hdn⟩
     rw [r4,if_neg]
     ·exact hu
     ·have:(off+m)*sz≤k*sz:=Nat.mul_le_mul_right _ oM
      rw [Nat.add_mul] at this
      simp only [Array.length_toList]
      omega
theorem cpy_none {el sz n off:Nat} {f q:Nat→Nat→Cell}:BlkEqv (.row el sz n f) (.row el sz n (cpyF off 0 f q)):=by
 refine BlkEqv.row_ext rfl fun k hk j hj => ?_
 unfold cpyF
 split
 ·rfl
 ·rw [if_neg oM]
theorem appIn_ok (hP:E.P=Γ.P) (hG:E.G=Γ.G) (h:Sat Γ S W D ρ st a w) (hd:d<Γ.N) (hnd:¬ W d) {t t2 ty:TypeId} {x y:Operand}
  (hf:(appInM E i g d t t2 x y).Ev st.get eff) (hvc:∀ p∈eff.vc,p):g=none∧EffOk Γ S W st a w (some d) nid eff (Builtin.append_ #[t,t2] ty #[a.eval x,a.eval y]):=by
 simp only [appInM,ev_bind,ev_opt,ev_guard] at hf
 obtain ⟨_,hg1,v,hv,c,hc,v2,hv2,c2,hc2,el,hel,sz,hsz,_,hb,hf⟩:=hf
 refine ⟨p1_g hg1,?_⟩
 have:=cell_ev hc
 subst this
 have:=cell_ev hc2
 subst this
 rw [hP] at hel hsz hb
 obtain ⟨hb1,hb4⟩:=bAnd_eq hb
 have hb1:0<sz:=Nat.le_of_ble_eq_true hb1
 have hu:Γ.P.underlying t=some (.slice el):=by
  unfold tElem at hel
  split at hel
  ·rename_i e hh;simp only [Option.some.injEq] at hel;subst hel;exact hh
  ·cases hel
 obtain ⟨inf,hinf,rfl⟩:∃ inf,Γ.P.info? el=some inf∧inf.size=sz:=by
  unfold tSize at hsz
  split at hsz
  ·rename_i inf hh;simp only [Option.some.injEq] at hsz;exact ⟨inf,hh,hsz⟩
  ·cases hsz
 have hex:Exec none a:=by intro gd e;cases e
 have hgo:GdOk W none a:=by intro gd e;cases e
 have d1:=opd_den hG h hgo hex hv
 have d2:=opd_den hG h hgo hex hv2
 have i2:=opd_inS hG h hv2
 split at hf
 ·rename_i s id off m
  simp only [ev_bind,ev_guard,ev_ret] at hf
  obtain ⟨_,hs,r,hr,_,hg2,q,hq,rfl⟩:=hf
  obtain ⟨hs,hoff⟩:=bAnd_eq hs
  have hs:=(beq_eq _ _).1 hs
  have hoff:=(beq_eq _ _).1 hoff
  subst hs hoff
  obtain ⟨hg2,hg3⟩:=bAnd_eq hg2
  have hg2:=(beq_eq _ _).1 hg2
  have hg3:=(beq_eq _ _).1 hg3
  have hrow:=row_ev hr
  obtain ⟨re,rs,rn,rf⟩:=r
  simp only [appIn] at hg2 hg3 hrow hvc ⊢
  subst hg2 hg3
  have vm:m+q.n≤rn:=hvc _ (by simp)
  have vq:∀ x∈q.vc,x:=fun x hx=>hvc x (by simp [hx])
  obtain ⟨k1,k2⟩:=blkOf_sat (E:=E) (i:=i) (b := .row re inf.size rn (cpyF m q.n rf q.f)) (fun x hx=>hvc x (by simp [hx]))
  obtain ⟨hl,⟨news,hea,hfc⟩⟩:=src_run h hq vq d2 i2
  have heqv:BlkEqv (.row re inf.size rn (cpyF m q.n rf q.f)) (blkOf E i (.row re inf.size rn (cpyF m q.n rf q.f))).1:=⟨k1,k2⟩
  have hbk:=h.hp id _ hrow
  have hidS:=(h.idH id _ hrow).1
  have fin:∀ w' u,Sat Γ S W D ρ (st.set (.bk id) (.bk (blkOf E i (.row re inf.size rn (cpyF m q.n rf q.f))).1)) a w'→Den D ρ (.row inf.size id 0 (m+q.n)) u →
    SatE Γ (sPlus S nid) (fun t=>W t∨some d=some t) (st.sets [(.bk id,.bk (blkOf E i (.row re inf.size rn (cpyF m q.n rf q.f))).1),(.tm d,.tv (.v (.c (.row inf.size id 0 (m+q.n)))))]) (a.put (some d) u) w':=by
   intro w' u hs hu
   refine ⟨D,ρ,?_⟩
   exact (hs.put (W':=fun t=>W t∨some d=some t) hd hnd (fun t ht => .inl ht) (v := .v (.c (.row inf.size id 0 (m+q.n)))) (u:=u) hu hidS).mono (fun _ h => .inl h) (fun _ h=>h)
  have d1':Den D ρ (.row inf.size id 0 m) (a.eval x):=d1
  simp only [Den] at d1'
  by_cases h0:q.n=0
  ·have hnews:news=#[]:=by
    have:=hea.1
    rw [h0,Nat.zero_mul] at this
    exact Array.eq_empty_of_size_eq_zero this
   have hturn:Sat Γ S W D ρ (st.set (.bk id) (.bk (blkOf E i (.row re inf.size rn (cpyF m q.n rf q.f))).1)) a w:=by
    rw [h0] at heqv ⊢
    exact h.turnB hrow (BlkEqv.trans cpy_none heqv)
   rcases d1' with ⟨o,e1,h1,h2⟩ | ⟨z1,z2,z3,ad,hsp,e1⟩
   ·refine ⟨_,w,?_,fin w (.slice (some ⟨(ρ id).1,o,none⟩) (m+q.n) ((ρ id).2-0)) hturn (.inl ⟨o,rfl,by omega,h2⟩)⟩
    rw [e1,app_room hu hb4 hinf hl (hfc w rfl) (by omega),hnews]
    simp [roomS,storeCells]
   ·refine ⟨_,w,?_,fin w (.slice ad 0 0) hturn (.inr ⟨z1,rfl,by omega,ad,hsp,rfl⟩)⟩
    subst z3
    rw [e1,app_room hu hb4 hinf hl (hfc w rfl) (by omega),hnews,h0]
    cases ad<;>simp [roomS,storeCells]
  ·have hcap:rn≤(ρ id).2:=by
    rcases hbk with ⟨q1,q2,_⟩ | ⟨vs,fz,q1,q2,q3,q4,_⟩
    ·omega
    ·exact q4
   rcases d1' with ⟨o,e1,h1,h2⟩ | ⟨z1,_,_,_⟩
   ·have ho:o=0*inf.size:=h2.resolve_right (by omega)
    rw [Nat.zero_mul] at ho
    subst ho
    obtain ⟨w',r1,hs⟩:=row_over h hrow hb1 h0 vm hea (by omega) heqv
    refine ⟨_,w',?_,fin w' (.slice (some ⟨(ρ id).1,0,none⟩) (m+q.n) ((ρ id).2-0)) hs (.inl ⟨0,rfl,by omega,.inl (by rw [Nat.zero_mul])⟩)⟩
    rw [e1,app_room hu hb4 hinf hl (hfc w rfl) (by omega)]
    simp only [roomS,Sem.run_bind,addr_add,Nat.zero_add,r1,Result.andThen_ok,Sem.run_pure]
   ·omega
 ·simp [ev_fail] at hf
theorem clear_run {P:Program} {t ty el:Nat} {z:Value} {m cap:Nat} {b:Option Addr} (ht:P.underlying t=some (.slice el)) (hz:∀ w,(zeroValue el).run P w = .ok z w) :
  (Builtin.clear_ #[t] ty #[.slice b m cap]).run P w=(match b,m with | some a,m+1=>(do storeCells a (Builtin.zeroCells z.cells (m+1)).toList;pure (Value.tuple #[]):Sem Value) | _,_=>(pure (Value.tuple #[]):Sem Value)).run P w:=by
 cases b with
 | none=>simp [Builtin.clear_,run_underlying ht]
 | some a =>
  cases m with
  | zero=>simp [Builtin.clear_,run_underlying ht]
  | succ m=>simp [Builtin.clear_,run_underlying ht,hz]
theorem clear_ok (hP:E.P=Γ.P) (hG:E.G=Γ.G) (h:Sat Γ S W D ρ st a w) {d:Option Nat} (hd:∀ k,d=some k→k<Γ.N) (hnd:∀ k,d=some k→¬ W k) {t ty:TypeId} {x:Operand}
  (hf:(clearM E i g d t x).Ev st.get eff) (hvc:∀ p∈eff.vc,p):g=none∧EffOk Γ S W st a w d nid eff (Builtin.clear_ #[t] ty #[a.eval x]):=by
 simp only [clearM,ev_bind,ev_opt,ev_guard] at hf
 obtain ⟨_,hg1,v,hv,c,hc,el,hel,sz,hsz,z,hz,_,hb,hf⟩:=hf
 refine ⟨p1_g hg1,?_⟩
 have:=cell_ev hc
 subst this
 rw [hP] at hel hsz hz
 obtain ⟨hb1,hb⟩:=bAnd_eq hb
 obtain ⟨hb3,hb4⟩:=bAnd_eq hb
 have hb1:0<sz:=Nat.le_of_ble_eq_true hb1
 have hb3:=(beq_eq _ _).1 hb3
 rw [len_eq] at hb3
 have hu:Γ.P.underlying t=some (.slice el):=by
  unfold tElem at hel
  split at hel
  ·rename_i e hh;simp only [Option.some.injEq] at hel;subst hel;exact hh
  ·cases hel
 have hex:Exec none a:=by intro gd e;cases e
 have hgo:GdOk W none a:=by intro gd e;cases e
 have d1:=opd_den hG h hgo hex hv
 split at hf
 ·rename_i s id off m
  simp only [ev_bind,ev_guard,ev_ret] at hf
  obtain ⟨_,hs,r,hr,_,hg2,rfl⟩:=hf
  have hs:=(beq_eq _ _).1 hs
  subst hs
  obtain ⟨hg2,hg3⟩:=bAnd_eq hg2
  have hg2:=(beq_eq _ _).1 hg2
  have hg3:=(beq_eq _ _).1 hg3
  have hrow:=row_ev hr
  obtain ⟨re,rs,rn,rf⟩:=r
  simp only [clrB] at hg2 hg3 hrow hvc ⊢
  subst hg2 hg3
  have vm:off+m≤rn:=hvc _ (by simp)
  obtain ⟨k1,k2⟩:=blkOf_sat (E:=E) (i:=i) (b := .row re rs rn (cpyF off m rf (fun _ j=>nthD z j))) (fun x hx=>hvc x (by simp [hx]))
  have heqv:BlkEqv (.row re rs rn (cpyF off m rf (fun _ j=>nthD z j))) (blkOf E i (.row re rs rn (cpyF off m rf (fun _ j=>nthD z j)))).1:=⟨k1,k2⟩
  have fin:∀ w',Sat Γ S W D ρ (st.set (.bk id) (.bk (blkOf E i (.row re rs rn (cpyF off m rf (fun _ j=>nthD z j)))).1)) a w' →
    SatE Γ (sPlus S nid) (fun t=>W t∨d=some t) (st.sets ((.bk id,.bk (blkOf E i (.row re rs rn (cpyF off m rf (fun _ j=>nthD z j)))).1)::(jnkW d))) (a.put d (.tuple #[])) w':=by
   intro w' hs
   refine ⟨D,ρ,?_⟩
   cases d with
   | none=>exact hs.mono (fun _ h => .inl h) (fun _ h => .inl h)
   | some d=>exact (hs.put (W':=fun t=>W t∨some d=some t) (hd d rfl) (hnd d rfl) (fun t ht => .inl ht) (v := .junk) (u := .tuple #[]) trivial trivial).mono (fun _ h => .inl h) (fun _ h=>h)
  have d1':Den D ρ (.row rs id off m) (a.eval x):=d1
  simp only [Den] at d1'
  obtain ⟨zv,hzr,hzd,hzi⟩:=zero_run hz D rho0 w
  have hzw:∀ w,(zeroValue re).run Γ.P w = .ok zv w:=by
   intro w2
   obtain ⟨zv2,hzr2,_,_⟩:=zero_run hz D rho0 w2
   have:zv2=zv:=by
    unfold tZero at hz
    cases hi:Γ.P.info? re with
    | none=>rw [hi] at hz; cases hz
    | some inf =>
     cases hh:inf.zero with
     | none=>rw [hi] at hz; simp only [hh] at hz; cases hz
     | some z' =>
      simp [zeroValue,typeInfo,hi,hh] at hzr hzr2
      rw [← hzr,← hzr2]
   rw [← this];exact hzr2
  have zsz:zv.cells.size=rs:=by rw [hzd.1,hb3]
  have hea:EA D rho0 rs m (fun _ j=>nthD z j) (Builtin.zeroCells zv.cells m):=by
   refine ⟨by rw [size_zeroCells,zsz],fun i hi j hj => ?_⟩
   have e:(i*rs+j)%rs=j:=by rw [Nat.mul_comm,Nat.mul_add_mod];exact Nat.mod_eq_of_lt hj
   obtain ⟨u,hu',hdn⟩:=nth_rel hzd (show j<z.length by rw [hb3];exact hj)
   refine ⟨u,?_,hdn⟩
   have hlt:=mul_lt hi hj
   simp only [Builtin.zeroCells,Array.getElem?_map]
   rw [zsz,Array.getElem?_range,if_pos hlt]
   simp only [Option.map_some]
   rw [e,getElem!_def,hu']
  by_cases h0:m=0
  ·subst h0
   have hturn:=h.turnB hrow (BlkEqv.trans cpy_none heqv)
   have hval:∃ ad cap,a.eval x = .slice ad 0 cap:=by
    rcases d1' with ⟨o,e1,_⟩ | ⟨_,_,e3,ad,_,e1⟩
    ·exact ⟨_,_,e1⟩
    ·exact ⟨ad,0,e1⟩
   obtain ⟨ad,cap,e1⟩:=hval
   refine ⟨.tuple #[],w,?_,fin w hturn⟩
   rw [e1,clear_run hu hzw]
   cases ad<;>rfl
  ·have hcap:rn≤(ρ id).2:=by
    rcases h.hp id _ hrow with ⟨q1,q2,_⟩ | ⟨vs,fz,q1,q2,q3,q4,_⟩
    ·omega
    ·exact q4
   rcases d1' with ⟨o,e1,h1,h2⟩ | ⟨z1,z2,z3,_⟩
   ·have ho:o=off*rs:=h2.resolve_right (by omega)
    subst ho
    obtain ⟨w',r1,hs⟩:=row_over h hrow hb1 h0 vm hea (by omega) heqv
    refine ⟨.tuple #[],w',?_,fin w' hs⟩
    rw [e1,clear_run hu hzw]
    obtain ⟨k,rfl⟩:∃ k,m=k+1:=⟨m-1,by omega⟩
    simp only [Sem.run_bind,r1,Result.andThen_ok,Sem.run_pure]
   ·omega
 ·simp [ev_fail] at hf
end
end Go.Sv
end
section
namespace Go.Sv
open M
def noEqs:Eqs:=⟨[],[],[],[]⟩
def eM (m:M Eff):M (Eff×Eqs):=bind m fun e=>ret (e,noEqs)
def valM (E:Env) (cs:List (Nat×CallE E.P E.G)) (i nid:Nat) (g:OG) (d:Option Nat) (f:Operand) (args:List Operand):M (Eff×Eqs) :=
 match f,args,d with
 | .func k,[x],some d=>match isNoEsc E.P k with
  | true=>eM (bind (opdM E g x) fun v=>finM E i g d [] v)
  | false=>callM E cs i nid g (some d) (.value (.func k)) [x]
 | f,args,d=>callM E cs i nid g d (.value f) args
def convAM (E:Env) (i nid:Nat) (g:OG) (d:Nat) (s t:TypeId) (x:Operand):M (Eff×Eqs) :=
 match E.P.underlying s,E.P.underlying t with
 | some .string,some (.slice e)=>eM (toBytM E i nid g d e x)
 | _,_=>eM (convXM E i g d s t x)
def actM (E:Env) (cs:List (Nat×CallE E.P E.G)) (i nid:Nat) (g:OG) (o:Oper):M (Eff×Eqs) :=
 match o.op,o.dst with
 | .move x,some d=>eM (moveXM E i g d x)
 | .assign x,some d=>eM (moveXM E i g d x)
 | .pick c x y,some d=>eM (pickXM E i g d c x y)
 | .alloc t,some d=>bind (pure1 g) fun _=>bind (opt (tZero E.P t)) fun z=>ret (⟨[(.bk nid,.bk (.box t z)),(.tm d,.tv (.v (.c (.ptr nid 0))))],[]⟩,noEqs)
 | .box t x,some d=>bind (pure1 g) fun _=>bind (opdM E none x) fun v=>ret (⟨[(.bk nid,.bk (.box t v.cells)),(.tm d,.tv (.v (.c (.ptr nid 0))))],[]⟩,noEqs)
 | .build t ps,some d=>eM (buildM E i g d t ps.toList)
 | .buildSlice t n ps,some d=>eM (buildPubM E i nid g d t n ps.toList)
 | .load t x,some d=>eM (loadM E i g d t x)
 | .store t x y,none=>eM (storeM E i g t x y)
 | .nilCheck x,some d=>eM (nilChkM E i g d x)
 | .binOp op t x y _,some d=>eM (binM E i g d op t x y)
 | .unOp op _ x,some d=>eM (unM E i g d op x)
 | .convert s t x,some d=>convAM E i nid g d s t x
 | .makeInterface t x,some d=>eM (mkIfcM E i g d t x)
 | .makeFunc fn f c,some d=>eM (mkFnM E i g d fn f.toList c.toList)
 | .slice t x lo hi mx,some d=>eM (sliceM E i g d t x lo hi mx)
 | .fieldAddr t x f,some d=>eM (faddrM E i g d t x f)
 | .field t x f,some d=>eM (fieldM E i g d t x f)
 | .indexAddr t x y,some d=>eM (iaddrM E i g d t x y)
 | .index t x y,some d=>eM (indexM E i g d t x y)
 | .extract x k,some d=>eM (extractM E i g d x k)
 | .makeMap t r,some d=>eM (makeMapM E i nid g d t r)
 | .lookup t x y ok,some d=>eM (lookupM E i g d t x y ok)
 | .mapUpdate t x y z,none=>eM (mapUpdM E i g t x y z)
 | .insert t x y z,none=>eM (mapUpdM E i g t x y z)
 | .range t x,some d=>eM (rangeM E nid g d t x)
 | .next x str,some d=>eM (nextM E i g d x str)
 | .entry x,some d=>eM (entryM E g d x)
 | .typeAssert x _ at_ ok,some d=>eM (typeAsM E g d x at_ ok)
 | .call c,dst=>match c.callee,c.args.toList,c.argTypes.toList,dst with
  | .builtin .len,[x],[t],some d=>eM (lenM E i g d t x)
  | .builtin .append,[x,y],[t,t2],some d=>match look E.wrp i with
   | none=>eM (appendM E i nid g d t t2 x y)
   | some _=>eM (appInM E i g d t t2 x y)
  | .builtin .clear,[x],[t],dst=>eM (clearM E i g dst t x)
  | .builtin .unsafeSliceData,[x],_,some d=>eM (slDataM E i g d x)
  | .builtin .unsafeString,[x,y],[t,_],some d=>eM (unStrM E i g d t x y)
  | .builtin .min,[x,y],_,some d=>eM (minmaxM E i g d true x y)
  | .builtin .max,[x,y],_,some d=>eM (minmaxM E i g d false x y)
  | .builtin .copy,[x,y],[t,t2],some d=>eM (copyM E i g d t x y)
  | .value f,args,_,dst=>valM E cs i nid g dst f args
  | .invoke x m,args,_,dst=>callM E cs i nid g dst (.invoke x m) args
  | _,_,_,_=>fail
 | .makeSlice t x y,some d=>eM (mkSliceM E i nid g d t x y)
 | _,_=>fail
def boolOf:KV→M Bool
 | .tv (.v (.c (.bool b)))=>ret b
 | _=>fail
def opM (E:Env) (cs:List (Nat×CallE E.P E.G)) (i nid:Nat) (o:Oper):M (Eff×Eqs) :=
 match o.guard with
 | none=>actM E cs i nid none o
 | some (j,w)=>bind (opt (nth E.all j)) fun oj=>bind (opt oj.dst) fun t =>
  match look E.grd i with
  | some true=>bind (rd (.tm t)) fun kv=>bind (boolOf kv) fun b=>bind (actM E cs i nid none o) fun e=>ret (⟨e.1.wr,(b=w)::e.1.vc⟩,e.2)
  | some false=>bind (rd (.tm t)) fun kv=>bind (boolOf kv) fun b=>match o.dst with
   | some d=>ret (⟨[(.tm d,.gone)],[b = !w]⟩,noEqs)
   | none=>ret (⟨[],[b = !w]⟩,noEqs)
  | none=>bind (gdM 9 t w) fun g=>actM E cs i nid (some g) o
section
variable {Γ:Ctx} {S W:Nat→Prop} {D:Dat} {ρ:Rho} {st:St} {a:Act} {w:World} {E:Env} {i nid:Nat} {g:OG} {eff:Eff} {eqs:Eqs}
def ActOk (Γ:Ctx) (S W:Nat→Prop) (st:St) (a:Act) (w:World) (g:OG) (o:Oper) (nid:Nat) (eff:Eff):Prop :=
 (Exec g a→∀ (K:Act→World→Prop) (Q:Exit→Act→World→Prop),(∀ a' w',SatE Γ (sPlus S nid) (dPlus W o.dst) (st.sets eff.wr) a' w'→K a' w')→o.wp Γ.P a w K Q) ∧
 (¬ Exec g a→SatE Γ (sPlus S nid) (dPlus W o.dst) (st.sets eff.wr) (a.put o.dst undef) w)
theorem act_pure {o:Oper} {d:Nat} (hd:o.dst=some d) {sem:Sem Value} (hs:execOp a.eval o=(do pure (.value (← sem)))) (h:PureOk Γ S W D ρ st a w g d eff sem):ActOk Γ S W st a w g o nid eff:=by
 have cv:∀ a',Sat Γ S (wPlus W d) D ρ (st.sets eff.wr) a' w→SatE Γ (sPlus S nid) (dPlus W o.dst) (st.sets eff.wr) a' w:=fun a' h =>
  ⟨D,ρ,h.mono (fun _ h => .inl h) (fun t ht=>ht.imp id (fun e=>by rw [hd,e]))⟩
 refine ⟨fun he K Q hK => ?_,fun he => ?_⟩
 ·obtain ⟨u,hu,hsat⟩:=h.1 he
  unfold Oper.wp
  rw [hs]
  simp only [Sem.run_bind,hu,Result.andThen_ok,Sem.run_pure,Oper.upon_value]
  rw [hd]
  exact hK _ _ (cv _ hsat)
 ·rw [hd] at *
  have:=h.2 he
  exact ⟨D,ρ,this.mono (fun _ h => .inl h) (fun t ht=>ht.imp id (fun e=>by rw [e]))⟩
theorem act_run {o:Oper} {d:Nat} (hd:o.dst=some d) {sem:Sem Value} (hs:Exec g a→∀ u,sem.run Γ.P w = .ok u w→(execOp a.eval o).run Γ.P w = .ok (.value u) w) (h:PureOk Γ S W D ρ st a w g d eff sem):ActOk Γ S W st a w g o nid eff:=by
 have cv:∀ a',Sat Γ S (wPlus W d) D ρ (st.sets eff.wr) a' w→SatE Γ (sPlus S nid) (dPlus W o.dst) (st.sets eff.wr) a' w:=fun a' h =>
  ⟨D,ρ,h.mono (fun _ h => .inl h) (fun t ht=>ht.imp id (fun e=>by rw [hd,e]))⟩
 refine ⟨fun he K Q hK => ?_,fun he => ?_⟩
 ·obtain ⟨u,hu,hsat⟩:=h.1 he
  unfold Oper.wp
  rw [hs he u hu]
  simp only [Oper.upon_value]
  rw [hd]
  exact hK _ _ (cv _ hsat)
 ·have:=cv _ (h.2 he)
  rw [hd] at *
  exact this
theorem act_eff {o:Oper} {d:Nat} (hd:o.dst=some d) {sem:Sem Value} (hs:execOp a.eval o=(do pure (.value (← sem)))) (hg:g=none) (h:EffOk Γ S W st a w (some d) nid eff sem):ActOk Γ S W st a w g o nid eff:=by
 obtain ⟨u,w',hu,hsat⟩:=h
 subst hg
 refine ⟨fun he K Q hK => ?_,fun he=>(he (by intro gd e;cases e)).elim⟩
 unfold Oper.wp
 rw [hs]
 simp only [Sem.run_bind,hu,Result.andThen_ok,Sem.run_pure,Oper.upon_value]
 rw [hd]
 refine hK _ _ ?_
 rw [hd]
 exact hsat
theorem act_effO {o:Oper} {sem:Sem Value} (hs:execOp a.eval o=(do pure (.value (← sem)))) (hg:g=none) (h:EffOk Γ S W st a w o.dst nid eff sem):ActOk Γ S W st a w g o nid eff:=by
 obtain ⟨u,w',hu,hsat⟩:=h
 subst hg
 refine ⟨fun he K Q hK => ?_,fun he=>(he (by intro gd e;cases e)).elim⟩
 unfold Oper.wp
 rw [hs]
 simp only [Sem.run_bind,hu,Result.andThen_ok,Sem.run_pure,Oper.upon_value]
 exact hK _ _ hsat
theorem pure1_ev {u:Unit} {L:Key→Option KV} (h:(pure1 g).Ev L u):g=none:=by
 cases g with
 | none=>rfl
 | some gd=>simp [pure1,ev_fail] at h
theorem act_ok (hP:E.P=Γ.P) (hG:E.G=Γ.G) {cs:List (Nat×CallE E.P E.G)} (h:Sat Γ S W D ρ st a w) (hg:GdOk W g a) (hfr:Fresh S nid) {o:Oper} (hd:∀ x,o.dst=some x→x<Γ.N∧¬ W x)
  (hf:(actM E cs i nid g o).Ev st.get (eff,eqs)) (hvc:∀ p∈eff.vc,p) (he1:eqs.el=eqs.er) (he2:eqs.bl=eqs.br):ActOk Γ S W st a w g o nid eff:=by
 have un:∀ {m:M Eff},(eM m).Ev st.get (eff,eqs)→m.Ev st.get eff:=by
  intro m hm
  simp only [eM,ev_bind,ev_ret,Prod.mk.injEq] at hm
  obtain ⟨e,h1,rfl,_⟩:=hm
  exact h1
 unfold actM at hf
 split at hf
 case h_1 x d ho hdst=>exact act_pure hdst (by simp only [execOp,ho];rfl) (moveX_ok hG h hg (hd d hdst).1 (hd d hdst).2 (un hf) hvc)
 case h_2 x d ho hdst=>exact act_pure hdst (by simp only [execOp,ho];rfl) (moveX_ok hG h hg (hd d hdst).1 (hd d hdst).2 (un hf) hvc)
 case h_3 c x y d ho hdst=>exact act_pure hdst (by simp only [execOp,ho,bind_assoc,pure_bind]) (pickX_ok hG h hg (hd d hdst).1 (hd d hdst).2 (un hf) hvc)
 case h_4 t d ho hdst =>
  simp only [ev_bind,ev_opt,ev_ret,Prod.mk.injEq] at hf
  obtain ⟨_,h1,z,hz,rfl,_⟩:=hf
  exact act_eff hdst (by simp only [execOp,ho]) (pure1_ev h1) (alloc_ok hP h hfr (hd d hdst).1 (hd d hdst).2 hz)
 case h_5 t x d ho hdst =>
  simp only [ev_bind,ev_opt,ev_ret,Prod.mk.injEq] at hf
  obtain ⟨_,h1,v,hv,rfl,_⟩:=hf
  exact act_eff hdst (by simp only [execOp,ho]) (pure1_ev h1) (box_ok hG h hfr (hd d hdst).1 (hd d hdst).2 hv)
 case h_6 t ps d ho hdst=>exact act_pure hdst (by simp only [execOp,ho]) (build_ok hP hG h hg (hd d hdst).1 (hd d hdst).2 (un hf) hvc)
 case h_7 t n ps d ho hdst =>
  obtain ⟨hg0,hef⟩:=buildPub_ok hP hG h hfr (hd d hdst).1 (hd d hdst).2 (un hf) hvc
  exact act_eff hdst (by simp only [execOp,ho]) hg0 hef
 case h_8 t x d ho hdst=>exact act_pure hdst (by simp only [execOp,ho]) (load_ok hP hG h hg (hd d hdst).1 (hd d hdst).2 (un hf) hvc)
 case h_9 t x y ho hdst =>
  obtain ⟨rfl,w',hr,hs⟩:=store_ok hP hG h (un hf) hvc
  refine ⟨fun he K Q hK => ?_,fun he=>(he (by intro gd e;cases e)).elim⟩
  unfold Oper.wp
  simp only [execOp,ho,Sem.run_bind,hr,Result.andThen_ok,Sem.run_pure,Oper.upon_skip,hdst]
  refine hK _ _ ⟨D,ρ,?_⟩
  exact hs.mono (fun _ h => .inl h) (fun _ h => .inl h)
 case h_10 x d ho hdst =>
  obtain ⟨h1,h2⟩:=nilChk_ok hG h hg (hd d hdst).1 (hd d hdst).2 (un hf) hvc
  refine act_run hdst (fun he u hu => ?_) h1
  simp only [Sem.run_pure,Result.ok.injEq,and_true] at hu
  subst hu
  rcases h2 he with ⟨ad,e⟩ | ⟨f,k,c,e⟩
  ·simp only [execOp,ho,e];rfl
  ·simp only [execOp,ho,e];rfl
 case h_11 op t x y yt d ho hdst=>exact act_pure hdst (by simp only [execOp,ho]) (bin_ok hP hG h hg (hd d hdst).1 (hd d hdst).2 (un hf) hvc)
 case h_12 op t x d ho hdst=>exact act_pure hdst (by simp only [execOp,ho]) (un_ok hP hG h hg (hd d hdst).1 (hd d hdst).2 (un hf) hvc)
 case h_13 s t x d ho hdst =>
  unfold convAM at hf
  split at hf
  ·rename_i e hs ht
   obtain ⟨hg0,hef⟩:=toByt_ok hP hG h hfr (hd d hdst).1 (hd d hdst).2 (hP▸hs) (hP▸ht) (un hf) hvc
   exact act_eff hdst (by simp only [execOp,ho]) hg0 hef
  ·exact act_pure hdst (by simp only [execOp,ho]) (convX_ok hP hG h hg (hd d hdst).1 (hd d hdst).2 (un hf) hvc)
 case h_14 t x d ho hdst=>exact act_pure hdst (by simp only [execOp,ho]) (mkIfc_ok hP hG h hg (hd d hdst).1 (hd d hdst).2 (un hf) hvc)
 case h_15 fn f c d ho hdst=>exact act_pure hdst (by simp only [execOp,ho]) (mkFn_ok hG h hg (hd d hdst).1 (hd d hdst).2 (un hf) hvc)
 case h_16 t x lo hi mx d ho hdst=>exact act_pure hdst (by simp only [execOp,ho]) (slice_ok hP hG h hg (hd d hdst).1 (hd d hdst).2 (un hf) hvc)
 case h_17 t x f d ho hdst=>exact act_pure hdst (by simp only [execOp,ho]) (faddr_ok hP hG h hg (hd d hdst).1 (hd d hdst).2 (un hf) hvc)
 case h_18 t x f d ho hdst=>exact act_pure hdst (by simp only [execOp,ho]) (field_ok hP hG h hg (hd d hdst).1 (hd d hdst).2 (un hf) hvc)
 case h_19 t x y d ho hdst=>exact act_pure hdst (by simp only [execOp,ho]) (iaddr_ok hP hG h hg (hd d hdst).1 (hd d hdst).2 (un hf) hvc)
 case h_20 t x y d ho hdst=>exact act_pure hdst (by simp only [execOp,ho]) (index_ok hP hG h hg (hd d hdst).1 (hd d hdst).2 (un hf) hvc)
 case h_21 x k d ho hdst=>exact act_pure hdst (by simp only [execOp,ho]) (extract_ok hG h hg (hd d hdst).1 (hd d hdst).2 (un hf) hvc)
 case h_22 t r d ho hdst =>
  obtain ⟨hg0,hef⟩:=makeMap_ok h hfr (hd d hdst).1 (hd d hdst).2 (un hf)
  exact act_eff hdst (by simp only [execOp,ho]) hg0 hef
 case h_23 t x y ok d ho hdst=>exact act_pure hdst (by simp only [execOp,ho]) (lookup_ok hP hG h hg (hd d hdst).1 (hd d hdst).2 (un hf) hvc)
 case h_24 t x y z ho hdst =>
  obtain ⟨rfl,w',hr,hs⟩:=mapUpd_ok hP hG h (un hf) hvc
  refine ⟨fun he K Q hK => ?_,fun he=>(he (by intro gd e;cases e)).elim⟩
  unfold Oper.wp
  simp only [execOp,ho,Sem.run_bind,hr,Result.andThen_ok,Sem.run_pure,Oper.upon_skip,hdst]
  refine hK _ _ ⟨D,ρ,?_⟩
  exact hs.mono (fun _ h => .inl h) (fun _ h => .inl h)
 case h_25 t x y z ho hdst =>
  obtain ⟨rfl,w',hr,hs⟩:=mapUpd_ok hP hG h (un hf) hvc
  refine ⟨fun he K Q hK => ?_,fun he=>(he (by intro gd e;cases e)).elim⟩
  unfold Oper.wp
  simp only [execOp,ho,Sem.run_bind,hr,Result.andThen_ok,Sem.run_pure,Oper.upon_skip,hdst]
  refine hK _ _ ⟨D,ρ,?_⟩
  exact hs.mono (fun _ h => .inl h) (fun _ h => .inl h)
 case h_26 t x d ho hdst =>
  obtain ⟨hg0,hef⟩:=range_ok hP hG h hfr (hd d hdst).1 (hd d hdst).2 (un hf)
  exact act_eff hdst (by simp only [execOp,ho]) hg0 hef
 case h_27 x str d ho hdst =>
  obtain ⟨hg0,hef⟩:=next_ok (ty:=o.type) hP hG h (hd d hdst).1 (hd d hdst).2 (un hf) hvc
  exact act_eff hdst (by simp only [execOp,ho]) hg0 hef
 case h_28 x d ho hdst =>
  obtain ⟨hg0,hef⟩:=entry_ok hG h (hd d hdst).1 (hd d hdst).2 (un hf) hvc
  exact act_eff hdst (by simp only [execOp,ho]) hg0 hef
 case h_29 x xt at_ ok d ho hdst =>
  obtain ⟨hg0,hef⟩:=typeAs_ok (xt:=xt) hP hG h (hd d hdst).1 (hd d hdst).2 (un hf)
  exact act_eff hdst (by simp only [execOp,ho]) hg0 hef
 case h_30 dst c ho =>
  split at hf
  ·rename_i x t d hcal hargs htys hdst
   refine act_pure hdst ?_ (len_ok (ty:=o.type) hP hG h hg (hd d hdst).1 (hd d hdst).2 (un hf) hvc)
   have ha:c.args=#[x]:=by
    cases hh:c.args with
    | mk l=>rw [hh] at hargs; simp at hargs; rw [hargs]
   have ht:c.argTypes=#[t]:=by
    cases hh:c.argTypes with
    | mk l=>rw [hh] at htys; simp at htys; rw [htys]
   have hm:(#[x]:Array Operand).map a.eval=#[a.eval x]:=by simp
   simp only [execOp,ho,resolve,hcal,ha,ht,pure_bind,invoke,builtin,hm]
  ·rename_i x y t t2 d hcal hargs htys hdst
   obtain ⟨hg0,hef⟩:g=none∧EffOk Γ S W st a w (some d) nid eff (Builtin.append_ #[t,t2] o.type #[a.eval x,a.eval y]):=by
    split at hf
    ·exact append_ok (ty:=o.type) hP hG h hfr (hd d hdst).1 (hd d hdst).2 (un hf) hvc
    ·exact appIn_ok (ty:=o.type) hP hG h (hd d hdst).1 (hd d hdst).2 (un hf) hvc
   refine act_eff hdst ?_ hg0 hef
   have ha:c.args=#[x,y]:=by
    cases hh:c.args with
    | mk l=>rw [hh] at hargs; simp at hargs; rw [hargs]
   have ht:c.argTypes=#[t,t2]:=by
    cases hh:c.argTypes with
    | mk l=>rw [hh] at htys; simp at htys; rw [htys]
   have hm:(#[x,y]:Array Operand).map a.eval=#[a.eval x,a.eval y]:=by simp
   simp only [execOp,ho,resolve,hcal,ha,ht,pure_bind,invoke,builtin,hm]
  ·rename_i x t hcal hargs htys
   obtain ⟨hg0,hef⟩:=clear_ok (ty:=o.type) (nid:=nid) hP hG h (d:=o.dst) (fun k hk=>(hd k hk).1) (fun k hk=>(hd k hk).2) (un hf) hvc
   refine act_effO ?_ hg0 hef
   have ha:c.args=#[x]:=by
    cases hh:c.args with
    | mk l=>rw [hh] at hargs; simp at hargs; rw [hargs]
   have ht:c.argTypes=#[t]:=by
    cases hh:c.argTypes with
    | mk l=>rw [hh] at htys; simp at htys; rw [htys]
   have hm:(#[x]:Array Operand).map a.eval=#[a.eval x]:=by simp
   simp only [execOp,ho,resolve,hcal,ha,ht,pure_bind,invoke,builtin,hm]
  ·rename_i x d hcal hargs hdst
   have ha:c.args=#[x]:=by
    cases hh:c.args with
    | mk l=>rw [hh] at hargs; simp at hargs; rw [hargs]
   have hm:(#[x]:Array Operand).map a.eval=#[a.eval x]:=by simp
   exact act_pure hdst (by simp only [execOp,ho,resolve,hcal,ha,pure_bind,invoke,builtin,hm]) (slData_ok (ts:=c.argTypes) (ty:=o.type) hG h hg (hd d hdst).1 (hd d hdst).2 (un hf) hvc)
  ·rename_i x y t it d hcal hargs htys hdst
   have ha:c.args=#[x,y]:=by
    cases hh:c.args with
    | mk l=>rw [hh] at hargs; simp at hargs; rw [hargs]
   have ht:c.argTypes=#[t,it]:=by
    cases hh:c.argTypes with
    | mk l=>rw [hh] at htys; simp at htys; rw [htys]
   have hm:(#[x,y]:Array Operand).map a.eval=#[a.eval x,a.eval y]:=by simp
   obtain ⟨hg0,hef⟩:=unStr_ok (it:=it) (ty:=o.type) hP hG h (hd d hdst).1 (hd d hdst).2 (un hf) hvc
   exact act_eff hdst (by simp only [execOp,ho,resolve,hcal,ha,ht,pure_bind,invoke,builtin,hm]) hg0 hef
  ·rename_i x y d hcal hargs hdst
   have ha:c.args=#[x,y]:=by
    cases hh:c.args with
    | mk l=>rw [hh] at hargs; simp at hargs; rw [hargs]
   have hm:(#[x,y]:Array Operand).map a.eval=#[a.eval x,a.eval y]:=by simp
   exact act_pure hdst (by simp only [execOp,ho,resolve,hcal,ha,pure_bind,invoke,builtin,hm];rfl) (minmax_ok (ts:=c.argTypes) (ty:=o.type) (mn:=true) hP hG h hg (hd d hdst).1 (hd d hdst).2 (un hf) hvc)
  ·rename_i x y d hcal hargs hdst
   have ha:c.args=#[x,y]:=by
    cases hh:c.args with
    | mk l=>rw [hh] at hargs; simp at hargs; rw [hargs]
   have hm:(#[x,y]:Array Operand).map a.eval=#[a.eval x,a.eval y]:=by simp
   exact act_pure hdst (by simp only [execOp,ho,resolve,hcal,ha,pure_bind,invoke,builtin,hm];rfl) (minmax_ok (ts:=c.argTypes) (ty:=o.type) (mn:=false) hP hG h hg (hd d hdst).1 (hd d hdst).2 (un hf) hvc)
  ·rename_i x y t t2 d hcal hargs htys hdst
   obtain ⟨hg0,hef⟩:=copy_ok (t2:=t2) (ty:=o.type) hP hG h (hd d hdst).1 (hd d hdst).2 (un hf) hvc
   refine act_eff hdst ?_ hg0 hef
   have ha:c.args=#[x,y]:=by
    cases hh:c.args with
    | mk l=>rw [hh] at hargs; simp at hargs; rw [hargs]
   have ht:c.argTypes=#[t,t2]:=by
    cases hh:c.argTypes with
    | mk l=>rw [hh] at htys; simp at htys; rw [htys]
   have hm:(#[x,y]:Array Operand).map a.eval=#[a.eval x,a.eval y]:=by simp
   simp only [execOp,ho,resolve,hcal,ha,ht,pure_bind,invoke,builtin,hm]
  ·rename_i f hcal
   have gen:∀ f,c.callee=f→(callM E cs i nid g o.dst f c.args.toList).Ev st.get (eff,eqs)→ActOk Γ S W st a w g o nid eff:=by
    intro f hcal hf
    obtain ⟨h1,h2⟩:=call_ok hP hG h hg hfr hd hf he1 he2
    exact ⟨fun he K Q hK=>h1 he o c K Q ho hcal rfl rfl hK,h2⟩
   unfold valM at hf
   split at hf
   ·rename_i k x d hargs hdst
    split at hf
    ·rename_i hn
     rw [hP] at hn
     have ha:c.args=#[x]:=by
      cases hh:c.args with
      | mk l=>rw [hh] at hargs; simp at hargs; rw [hargs]
     have hm:(#[x]:Array Operand).map a.eval=#[a.eval x]:=by simp
     refine act_run hdst (fun he u hu => ?_) (move_ok hG h hg (hd d hdst).1 (hd d hdst).2 (un hf) hvc)
     simp only [Sem.run_pure,Result.ok.injEq] at hu
     obtain ⟨rfl,_⟩:=hu
     simp only [execOp,ho,resolve,hcal,ha,hm,Deferred.ofValue,Act.eval,pure_bind,invoke]
     exact noEsc_run hn _ w
    ·exact gen _ hcal (by rw [hdst,hargs];exact hf)
   ·exact gen _ hcal hf
  ·rename_i x m hcal
   obtain ⟨h1,h2⟩:=call_ok hP hG h hg hfr hd hf he1 he2
   exact ⟨fun he K Q hK=>h1 he o c K Q ho hcal rfl rfl hK,h2⟩
  ·simp [ev_fail] at hf
 case h_31 t x y d ho hdst =>
  obtain ⟨hg0,hef⟩:=mkSlice_ok hP hG h hfr (hd d hdst).1 (hd d hdst).2 (un hf) hvc
  exact act_eff hdst (by simp only [execOp,ho]) hg0 hef
 case h_32=>simp [ev_fail] at hf
theorem bool_kv {kv:KV} {b:Bool} {L:Key→Option KV} (h:(boolOf kv).Ev L b):kv = .tv (.v (.c (.bool b))):=by
 unfold boolOf at h
 split at h
 ·simp only [ev_ret] at h;rw [h]
 ·simp [ev_fail] at h
theorem op_ok (hP:E.P=Γ.P) (hG:E.G=Γ.G) {cs:List (Nat×CallE E.P E.G)} {ops:Array Oper} (hall:E.all=ops.toList) (h:Sat Γ S W D ρ st a w) (hfr:Fresh S nid) {o:Oper} (ho:ops[i]?=some o)
  (hd:∀ x,o.dst=some x→x<Γ.N∧¬ W x) (hgw:∀ j b oj t,o.guard=some (j,b)→ops[j]?=some oj→oj.dst=some t→W t)
  (hf:(opM E cs i nid o).Ev st.get (eff,eqs)) (hvc:∀ p∈eff.vc,p) (he1:eqs.el=eqs.er) (he2:eqs.bl=eqs.br)
  {K:Act→World→Prop} {Q:Exit→Act→World→Prop} (hK:∀ a' w',SatE Γ (sPlus S nid) (dPlus W o.dst) (st.sets eff.wr) a' w'→K a' w'):wpOp Γ.P ops Q i K a w:=by
 unfold wpOp
 rw [ho]
 simp only
 unfold opM at hf
 cases hgd:o.guard with
 | none =>
  rw [hgd] at hf
  simp only at hf
  have hw:Region.wanted o (yielded ops a.tmps)=true:=by simp [Region.wanted,hgd]
  rw [if_pos hw]
  exact .inl ((act_ok hP hG h (g:=none) (by intro gd e;cases e) hfr hd hf hvc he1 he2).1 (by intro gd e;cases e) K Q hK)
 | some p =>
  obtain ⟨j,b⟩:=p
  rw [hgd] at hf
  simp only [ev_bind,ev_opt] at hf
  obtain ⟨oj,hoj,t,ht,hf⟩:=hf
  rw [nth_eq,hall] at hoj
  have hoj:ops[j]?=some oj:=by simpa using hoj
  have hWt:=hgw j b oj t hgd hoj ht
  have hy:yielded ops a.tmps j=(match a.tmps[t]? with | some (.bool b)=>some b | _=>none):=by
   simp only [yielded,hoj,Option.bind_some,ht]
   rfl
  have hwant:Region.wanted o (yielded ops a.tmps)=true↔a.tmps[t]?=some (.bool b):=by
   simp only [Region.wanted,hgd,hy]
   cases hh:a.tmps[t]? with
   | none=>simp
   | some v=>cases v<;>simp
  split at hf
  ·simp only [ev_bind,ev_rd,ev_ret,Prod.mk.injEq] at hf
   obtain ⟨kv,hk,b',hb',e,he,rfl,rfl⟩:=hf
   have:=bool_kv hb'
   subst this
   obtain ⟨tv,e2,hl⟩:=get_tm hk
   simp only [KV.tv.injEq] at e2
   subst e2
   obtain ⟨u,hu,hdn⟩:=h.tm t _ hl
   have hdn:u = .bool b':=hdn
   have hbb:b'=b:=hvc _ (by simp)
   have hw:Region.wanted o (yielded ops a.tmps)=true:=hwant.2 (by rw [hu,hdn,hbb])
   rw [if_pos hw]
   exact .inl ((act_ok hP hG h (g:=none) (by intro gd e;cases e) hfr hd (eff:=e.1) (eqs:=e.2) he (fun p hp=>hvc p (by simp [hp])) he1 he2).1 (by intro gd e;cases e) K Q hK)
  ·simp only [ev_bind,ev_rd] at hf
   obtain ⟨kv,hk,b',hb',hf⟩:=hf
   have:=bool_kv hb'
   subst this
   obtain ⟨tv,e2,hl⟩:=get_tm hk
   simp only [KV.tv.injEq] at e2
   subst e2
   obtain ⟨u,hu,hdn⟩:=h.tm t _ hl
   have hdn:u = .bool b':=hdn
   have fin:b'=(!b)→(∀ a' w',SatE Γ (sPlus S nid) (dPlus W o.dst) (st.sets eff.wr) a' w'→K a' w')→SatE Γ (sPlus S nid) (dPlus W o.dst) (st.sets eff.wr) (a.put o.dst undef) w →
     (if Region.wanted o (yielded ops a.tmps)=true then o.wp Γ.P a w K Q∨o.asks Γ.P a w∧LetsOut Q else K (a.put o.dst undef) w):=by
    intro hbb hK hs
    rw [if_neg]
    ·exact hK _ _ hs
    ·rw [hwant,hu,hdn,hbb]
     cases b<;>simp
   split at hf
   ·rename_i d hdst
    simp only [ev_ret,Prod.mk.injEq] at hf
    obtain ⟨rfl,_⟩:=hf
    refine fin (hvc _ (by simp)) hK ⟨D,ρ,?_⟩
    rw [hdst]
    exact ((h.mono (S':=sPlus S nid) (W':=W) (fun _ h => .inl h) (fun _ h=>h)).gone (hd d hdst).1 (hd d hdst).2 (fun t ht => .inl ht))
   ·rename_i hdst
    simp only [ev_ret,Prod.mk.injEq] at hf
    obtain ⟨rfl,_⟩:=hf
    refine fin (hvc _ (by simp)) hK ⟨D,ρ,?_⟩
    rw [hdst]
    exact h.mono (fun _ h => .inl h) (fun _ h => .inl h)
  ·simp only [ev_bind] at hf
   obtain ⟨g,hg,hf⟩:=hf
   obtain ⟨e1,e2,gok⟩:=gdM_ok h 9 t b g hg hWt
   have gok':GdOk W (some g) a:=by intro gd e;cases e;exact gok
   have hact:=act_ok hP hG h (g:=some g) gok' hfr hd hf hvc he1 he2
   have hex:Exec (some g) a↔a.tmps[t]?=some (.bool b):=by
    constructor
    ·intro he;have:=he g rfl;rw [e1,e2] at this;exact this
    ·intro he gd e;cases e;rw [e1,e2];exact he
   by_cases hw:Region.wanted o (yielded ops a.tmps)=true
   ·rw [if_pos hw]
    exact .inl (hact.1 (hex.2 (hwant.1 hw)) K Q hK)
   ·rw [if_neg hw]
    exact hK _ _ (hact.2 (fun he=>hw (hwant.2 (hex.1 he))))
end
end Go.Sv
end
section
namespace Go.Sv
open M
def Loc {α:Type} (m:M α):Prop:=∀ L L' a r,m L=some (a,r)→(∀ k∈r,L' k=L k)→m L'=some (a,r)
theorem Loc.ret {α:Type} (a:α):Loc (M.ret a):=fun L L' b r h _=>h
theorem Loc.fail {α:Type}:Loc (M.fail:M α):=fun L L' b r h _=>h
theorem Loc.rd (k:Key):Loc (M.rd k):=by
 intro L L' b r h hk
 simp only [M.rd] at h ⊢
 cases hl:L k with
 | none=>simp [hl] at h
 | some v =>
  simp only [hl,Option.some.injEq,Prod.mk.injEq] at h
  obtain ⟨rfl,rfl⟩:=h
  rw [hk k (by simp),hl]
theorem Loc.bind {α β:Type} {m:M α} {f:α→M β} (hm:Loc m) (hf:∀ a,Loc (f a)):Loc (M.bind m f):=by
 intro L L' b r h hk
 simp only [M.bind] at h ⊢
 cases h1:m L with
 | none=>simp [h1] at h
 | some p =>
  obtain ⟨a,r1⟩:=p
  simp only [h1] at h
  cases h2:f a L with
  | none=>simp [h2] at h
  | some q =>
   obtain ⟨c,r2⟩:=q
   simp only [h2,Option.some.injEq,Prod.mk.injEq] at h
   obtain ⟨rfl,rfl⟩:=h
   rw [hm L L' a r1 h1 (fun k hk'=>hk k (by simp [hk']))]
   simp only
   rw [hf a L L' c r2 h2 (fun k hk'=>hk k (by simp [hk']))]
theorem Loc.opt {α:Type} (o:Option α):Loc (M.opt o):=by cases o<;>first | exact Loc.ret _ | exact Loc.fail
theorem Loc.guard (b:Bool):Loc (M.guard b):=by cases b<;>first | exact Loc.ret _ | exact Loc.fail
section
variable {E:Env} {g:OG} {i d nid:Nat}
theorem loc_opd (x:Operand):Loc (opdM E g x):=by
 cases x with
 | tmp t =>
  unfold opdM
  refine Loc.bind (Loc.rd _) (fun kv => ?_)
  split
  ·exact Loc.ret _
  ·split
   ·exact Loc.bind (Loc.guard _) (fun _=>Loc.ret _)
   ·exact Loc.fail
  ·exact Loc.fail
 | const v=>exact Loc.opt _
 | global n=>simp only [opdM]; split<;>first | exact Loc.ret _ | exact Loc.fail
 | func f=>exact Loc.bind (Loc.guard _) (fun _=>Loc.ret _)
theorem loc_gd:∀ (n t:Nat) (w:Bool),Loc (gdM n t w)
 | 0,_,_=>Loc.fail
 | n+1,t,w=>by
  unfold gdM
  refine Loc.bind (Loc.rd _) (fun kv => ?_)
  split
  ·exact Loc.ret _
  ·exact Loc.bind (loc_gd n _ _) (fun _=>Loc.ret _)
  ·exact Loc.fail
theorem loc_fin (vc:List Prop) (v:V1):Loc (finM E i g d vc v):=by unfold finM;split<;>exact Loc.ret _
theorem loc_flat (vc:List Prop) (v:V1):Loc (flatM E i g d vc v):=by unfold flatM;split<;>exact Loc.bind (Loc.guard _) (fun _=>Loc.ret _)
theorem loc_cell (v:V1):Loc (cellM v):=by cases v<;>first | exact Loc.ret _ | exact Loc.fail
theorem loc_int (v:V1):Loc (intM v):=by unfold intM;split<;>first | exact Loc.ret _ | exact Loc.fail
theorem loc_bool (v:V1):Loc (boolM v):=by unfold boolM;split<;>first | exact Loc.ret _ | exact Loc.fail
theorem loc_cells (id:Nat):∀ (n off:Nat),Loc (cellsM id off n)
 | 0,_=>Loc.ret _
 | n+1,off=>by
  unfold cellsM
  refine Loc.bind (Loc.rd _) (fun kv => ?_)
  split
  ·exact Loc.bind (loc_cells id n _) (fun _=>Loc.ret _)
  ·exact Loc.fail
theorem loc_cellsW (id off n:Nat):Loc (cellsW id off n):=by
 unfold cellsW
 split
 ·exact loc_cells _ _ _
 ·refine Loc.bind (Loc.rd _) (fun kv => ?_)
  split
  ·split
   ·exact Loc.ret _
   ·exact loc_cells _ _ _
  ·exact Loc.fail
theorem loc_have (id:Nat):∀ (n off:Nat),Loc (haveM id off n)
 | 0,_=>Loc.ret _
 | n+1,off=>by unfold haveM; exact Loc.bind (Loc.rd _) (fun kv=>loc_have id n _)
theorem loc_ptrSt (id off n:Nat) (l:List Cell):Loc (ptrStM id off n l):=by
 unfold ptrStM
 split
 ·exact Loc.bind (loc_have _ _ _) (fun _=>Loc.ret _)
 ·refine Loc.bind (Loc.rd _) (fun kv => ?_)
  split
  ·split
   ·exact Loc.ret _
   ·exact Loc.bind (loc_have _ _ _) (fun _=>Loc.ret _)
  ·exact Loc.fail
theorem loc_mkV (ag:Bool) (l:List Cell):Loc (mkV ag l):=by
 unfold mkV;split
 ·exact Loc.ret _
 ·split<;>first | exact Loc.ret _ | exact Loc.fail
theorem loc_row (id:Nat):Loc (rowM id):=by
 unfold rowM
 refine Loc.bind (Loc.rd _) (fun kv => ?_)
 split<;>first | exact Loc.ret _ | exact Loc.fail
theorem loc_pure1:Loc (pure1 g):=by unfold pure1;split<;>first | exact Loc.ret _ | exact Loc.fail
theorem loc_blk (id:Nat) (vc:List Prop) (b:Blk):Loc (blkM E i id vc b):=by unfold blkM;split<;>exact Loc.ret _
theorem loc_arith (k:IntKind) (r:Int):Loc (arithM E i g d k r):=by unfold arithM;split<;>exact loc_fin _ _
theorem loc_binI (op:BinOp) (k:IntKind) (x y:Int):Loc (binI E i g d op k x y):=by
 unfold binI;split<;>first | exact loc_arith _ _ | exact loc_fin _ _ | exact Loc.fail
theorem loc_binS (op:BinOp) (x y:List UInt8):Loc (binS E i g d op x y):=by
 unfold binS;split<;>first | exact loc_fin _ _ | exact Loc.fail
theorem loc_optI (o:Option Operand):Loc (optIM E g o):=by
 cases o with
 | none=>exact Loc.ret _
 | some o=>exact Loc.bind (loc_opd _) (fun _=>Loc.bind (loc_int _) (fun _=>Loc.ret _))
theorem loc_opds:∀ (l:List Operand),Loc (opdsM E g l)
 | []=>Loc.ret _
 | x::r=>by unfold opdsM; exact Loc.bind (loc_opd _) (fun _=>Loc.bind (loc_opds r) (fun _=>Loc.ret _))
theorem loc_parts (pl:Nat→Option (Nat×Nat)):∀ (ps:List (Nat×Operand)) (l:List Cell),Loc (partsM E g pl l ps)
 | [],l=>Loc.ret _
 | (i,x)::r,l=>by unfold partsM; exact Loc.bind (loc_opd _) (fun _=>Loc.bind (Loc.opt _) (fun _=>Loc.bind (Loc.guard _) (fun _=>loc_parts pl r _)))
theorem loc_blks:∀ (l:List Nat),Loc (blksM l)
 | []=>Loc.ret _
 | x::r=>by
  unfold blksM
  refine Loc.bind (Loc.rd _) (fun kv => ?_)
  split
  ·exact Loc.bind (loc_blks r) (fun _=>Loc.ret _)
  ·exact Loc.fail
theorem loc_callee (x:Operand):Loc (calleeM E g x):=by
 unfold calleeM
 split
 ·exact Loc.ret _
 ·refine Loc.bind (loc_opd _) (fun _ => ?_)
  split<;>first | exact Loc.ret _ | exact Loc.fail | (split<;>exact Loc.ret _)
theorem loc_cal (x:Callee):Loc (calM E g x):=by
 unfold calM
 split
 ·exact loc_callee _
 ·refine Loc.bind (loc_opd _) (fun _ => ?_)
  split
  ·exact Loc.bind (Loc.opt _) (fun _=>Loc.ret _)
  ·exact Loc.fail
 ·exact Loc.fail
theorem loc_boolOf (kv:KV):Loc (boolOf kv):=by unfold boolOf;split<;>first | exact Loc.ret _ | exact Loc.fail
theorem loc_base (el sz:Nat) (c:Cell):Loc (baseM el sz c):=by
 unfold baseM
 split
 ·exact Loc.ret _
 ·exact Loc.bind (Loc.guard _) (fun _=>Loc.bind (loc_row _) (fun _=>Loc.bind (Loc.guard _) (fun _=>Loc.ret _)))
 ·exact Loc.fail
theorem loc_src (sz:Nat) (no:Option Nat) (c:Cell):Loc (srcM sz no c):=by
 unfold srcM
 split
 ·exact Loc.ret _
 ·exact Loc.bind (Loc.guard _) (fun _=>Loc.ret _)
 ·exact Loc.bind (Loc.guard _) (fun _=>Loc.bind (loc_row _) (fun _=>Loc.bind (Loc.guard _) (fun _=>Loc.ret _)))
 ·exact Loc.bind (Loc.guard _) (fun _=>Loc.ret _)
 ·exact Loc.fail
theorem loc_str (v:V1):Loc (strM v):=by unfold strM;split<;>first | exact Loc.ret _ | exact Loc.fail
theorem loc_ms (id:Nat):Loc (msM id):=by
 unfold msM
 refine Loc.bind (Loc.rd _) (fun kv => ?_)
 split<;>first | exact Loc.ret _ | exact Loc.fail
theorem loc_get (c:Cell):Loc (getM c):=by unfold getM;split<;>first | exact Loc.ret _ | exact loc_ms _ | exact Loc.fail
theorem loc_arr (id:Nat):Loc (arrM id):=by
 unfold arrM
 refine Loc.bind (Loc.rd _) (fun kv => ?_)
 split<;>first | exact Loc.ret _ | exact Loc.fail
theorem loc_bx (id:Nat):Loc (bxM id):=by
 unfold bxM
 refine Loc.bind (Loc.rd _) (fun kv => ?_)
 split<;>first | exact Loc.ret _ | exact Loc.fail
theorem loc_strOf (v:V1):Loc (strOfM v):=by unfold strOfM;split<;>first | exact Loc.ret _ | exact Loc.fail
set_option maxHeartbeats 2000000 in
theorem loc_act {cs:List (Nat×CallE E.P E.G)} (o:Oper):Loc (actM E cs i nid g o):=by
 unfold actM
 split
 all_goals (try unfold eM)
 all_goals (try unfold loadM)<;>(try unfold storeM)<;>(try unfold nilChkM)<;>(try unfold binM)<;>(try unfold unM)<;>(try unfold convXM)<;>(try unfold moveXM)<;>(try unfold makeMapM)<;>(try unfold lookupM)<;>(try unfold mapUpdM)<;>(try unfold rangeM)<;>(try unfold nextM)<;>(try unfold entryM)<;>(try unfold typeAsM)<;>(try unfold mkIfcM)<;>(try unfold mkFnM)<;>(try unfold sliceM)<;>(try unfold faddrM)<;>(try unfold fieldM)<;>(try unfold iaddrM)<;>(try unfold indexM)<;>(try unfold extractM)<;>(try unfold buildM)<;>(try unfold buildSlM)<;>(try unfold pickXM)
 all_goals repeat' (first
  | exact Loc.ret _ | exact Loc.fail | exact Loc.rd _ | exact Loc.opt _ | exact Loc.guard _ | exact loc_opd _ | exact loc_fin _ _ | exact loc_flat _ _ | exact loc_cell _ | exact loc_int _ | exact loc_bool _ | exact loc_cells _ _ _
  | exact loc_cellsW _ _ _ | exact loc_ptrSt _ _ _ _ | exact loc_have _ _ _ | exact loc_mkV _ _ | exact loc_row _ | exact loc_pure1 | exact loc_blk _ _ _ | exact loc_arith _ _ | exact loc_binI _ _ _ _ | exact loc_binS _ _ _ | exact loc_optI _
  | exact loc_base _ _ _ | exact loc_src _ _ _ | exact loc_opds _ | exact loc_parts _ _ _ | exact loc_blks _ | exact loc_cal _ | exact loc_gd _ _ _ | exact loc_str _ | exact loc_ms _ | exact loc_get _ | exact loc_bx _ | exact loc_arr _
  | (refine Loc.bind ?_ (fun _ => ?_)) | split | exact loc_strOf _ | unfold convAM | unfold eM | unfold convXM | unfold toBytM | unfold mkSliceM | unfold copyM | unfold copyRM | unfold copyBM | unfold toUnsM | unfold frUnsM | unfold toStrM | unfold convM | unfold valM | unfold slDataM | unfold unStrM | unfold minmaxM | unfold pickM | unfold buildPubM | unfold buildSlM | unfold lenM | unfold appendM | unfold appInM | unfold clearM | unfold callM)
theorem loc_op {cs:List (Nat×CallE E.P E.G)} (o:Oper):Loc (opM E cs i nid o):=by
 unfold opM
 repeat' (first
  | exact Loc.ret _ | exact Loc.fail | exact Loc.rd _ | exact Loc.opt _ | exact loc_act _ | exact loc_boolOf _ | exact loc_gd _ _ _
  | (refine Loc.bind ?_ (fun _ => ?_)) | split)
end
end Go.Sv
end
section
namespace Go.Sv
open M
structure Out where
 st:St
 vc:List Prop
 el:List (List V1)
 er:List (List V1)
 bl:List (List Blk)
 br:List (List Blk)
 lg:List (List Key×(Eff×Eqs))
def appL {α:Type}:List α→List α→List α
 | [],r=>r
 | x::l,r=>x::appL l r
theorem appL_mem {α:Type} {l r:List α} {x:α}:x∈appL l r↔x∈l∨x∈r:=by
 induction l with
 | nil=>simp [appL]
 | cons y l ih=>simp [appL,ih,or_assoc]
def runOps (E:Env) (cs:List (Nat×CallE E.P E.G)) (base:Nat):Nat→List Oper→St→Option Out
 | _,[],st=>some ⟨st,[],[],[],[],[],[]⟩
 | i,o::r,st=>match opM E cs i (base+16*i) o st.get with
  | none=>none
  | some (e,rd)=>match runOps E cs base (i+1) r (st.sets e.1.wr) with
   | none=>none
   | some out=>some ⟨out.st,appL e.1.vc out.vc,e.2.el::out.el,e.2.er::out.er,e.2.bl::out.bl,e.2.br::out.br,(rd,e)::out.lg⟩
def dstL:List Oper→List Nat
 | []=>[]
 | o::r=>match o.dst with
  | some d=>d::dstL r
  | none=>dstL r
def allLt (N:Nat):List Nat→Bool
 | []=>true
 | d::r=>bAnd (Nat.blt d N) (allLt N r)
def gdOkL:Nat→List Oper→Bool
 | _,[]=>true
 | i,o::r=>bAnd (match o.guard with | none=>true | some (j,_)=>Nat.blt j i) (gdOkL (i+1) r)
def opsOk (N:Nat) (ops:List Oper):Bool:=bAnd (nodupB (dstL ops)) (bAnd (allLt N (dstL ops)) (gdOkL 0 ops))
theorem dst_mem:∀ {l:List Oper} {i:Nat} {o:Oper} {d:Nat},l[i]?=some o→o.dst=some d→d∈dstL l
 | [],i,o,d,h,_=>by simp at h
 | x::r,0,o,d,h,hd=>by simp at h; subst h; simp [dstL,hd]
 | x::r,i+1,o,d,h,hd=>by
  simp at h
  have:=dst_mem h hd
  simp only [dstL]
  split
  ·exact List.mem_cons_of_mem _ this
  ·exact this
theorem dst_ne:∀ {l:List Oper} (hn:(dstL l).Nodup) {i j:Nat} {o o':Oper} {d:Nat},l[i]?=some o→l[j]?=some o'→o.dst=some d→o'.dst=some d→i=j
 | [],_,i,j,o,o',d,h,_,_,_=>by simp at h
 | x::r,hn,0,0,o,o',d,_,_,_,_=>rfl
 | x::r,hn,0,j+1,o,o',d,h,h',hd,hd'=>by
  simp at h h'
  subst h
  simp only [dstL,hd,List.nodup_cons] at hn
  exact (hn.1 (dst_mem h' hd')).elim
 | x::r,hn,i+1,0,o,o',d,h,h',hd,hd'=>by
  simp at h h'
  subst h'
  simp only [dstL,hd',List.nodup_cons] at hn
  exact (hn.1 (dst_mem h hd)).elim
 | x::r,hn,i+1,j+1,o,o',d,h,h',hd,hd'=>by
  simp at h h'
  have hn':(dstL r).Nodup:=by
   simp only [dstL] at hn
   split at hn
   ·exact (List.nodup_cons.1 hn).2
   ·exact hn
  rw [dst_ne hn' h h' hd hd']
theorem allLt_lt {N:Nat}:∀ {l:List Nat},allLt N l=true→∀ d∈l,d<N
 | [],_,d,h=>by simp at h
 | x::r,h,d,hd=>by
  obtain ⟨h1,h2⟩:=bAnd_eq h
  rcases List.mem_cons.1 hd with rfl | hd
  ·exact Nat.le_of_ble_eq_true h1
  ·exact allLt_lt h2 d hd
theorem gdOkL_lt:∀ {l:List Oper} {k:Nat},gdOkL k l=true→∀ {i:Nat} {o:Oper} {j:Nat} {b:Bool},l[i]?=some o→o.guard=some (j,b)→j<k+i
 | [],_,_,i,o,j,b,h,_=>by simp at h
 | x::r,k,h,0,o,j,b,hi,hg=>by
  obtain ⟨h1,h2⟩:=bAnd_eq h
  simp at hi
  subst hi
  rw [hg] at h1
  exact Nat.le_of_ble_eq_true h1
 | x::r,k,h,i+1,o,j,b,hi,hg=>by
  obtain ⟨h1,h2⟩:=bAnd_eq h
  simp at hi
  have:=gdOkL_lt h2 hi hg
  omega
def wSet (ops:List Oper) (i:Nat):Nat→Prop:=fun t=>∃ j,j<i∧∃ o:Oper,ops[j]?=some o∧o.dst=some t
def sSet (base i:Nat):Nat→Prop:=fun id=>id<base+16*i
section
variable {Γ:Ctx} {E:Env}
theorem run_text (hP:E.P=Γ.P) (hG:E.G=Γ.G) {cs:List (Nat×CallE E.P E.G)} {ops:Array Oper} (hall:E.all=ops.toList) (hok:opsOk Γ.N ops.toList=true) {base:Nat} {Q:Exit→Act→World→Prop} :
  ∀ (suf:List Oper) (i:Nat) (st:St) (a:Act) (w:World) (out:Out),ops.toList.drop i=suf→runOps E cs base i suf st=some out→(∀ p∈out.vc,p)→out.el=out.er→out.bl=out.br →
   SatE Γ (sSet base i) (wSet ops.toList i) st a w→(∀ a' w',SatE Γ (sSet base (i+suf.length)) (wSet ops.toList (i+suf.length)) out.st a' w'→Q .normal a' w') →
   wpOps Γ.P ops Q (List.range' i suf.length) a w:=by
 obtain ⟨ok1,ok23⟩:=bAnd_eq hok
 obtain ⟨ok2,ok3⟩:=bAnd_eq ok23
 have ok1:=nodupB_nodup ok1
 intro suf
 induction suf with
 | nil =>
  intro i st a w out hd hr hvc he hb hs hQ
  simp only [runOps,Option.some.injEq] at hr
  subst hr
  simp only [List.length_nil,List.range'_zero,wpOps]
  exact hQ a w hs
 | cons o r ih =>
  intro i st a w out hd hr hvc he hb hs hQ
  simp only [runOps] at hr
  cases hm:opM E cs i (base+16*i) o st.get with
  | none=>simp [hm] at hr
  | some p =>
   obtain ⟨e,rd⟩:=p
   simp only [hm] at hr
   cases hr2:runOps E cs base (i+1) r (st.sets e.1.wr) with
   | none=>simp [hr2] at hr
   | some out2 =>
    simp only [hr2,Option.some.injEq] at hr
    subst hr
    simp only [List.cons.injEq] at he hb
    have hi:ops.toList[i]?=some o:=by
     have:=congrArg (fun l=>l[0]?) hd
     simpa using this
    have hi':ops[i]?=some o:=by simpa using hi
    have hdr:ops.toList.drop (i+1)=r:=by
     have:=congrArg (fun l=>l.drop 1) hd
     simpa [List.drop_drop] using this
    simp only [List.length_cons,List.range'_succ]
    rw [wpOps_cons]
    obtain ⟨D,ρ,hsat⟩:=hs
    refine op_ok hP hG (cs:=cs) (nid:=base+16*i) hall hsat ?_ hi' ?_ ?_ (eff:=e.1) (eqs:=e.2) ⟨rd,hm⟩ (fun p hp=>hvc p (appL_mem.2 (.inl hp))) he.1 hb.1 ?_
    ·intro id h1 h2 h3
     unfold sSet at h3;omega
    ·intro x hx
     refine ⟨allLt_lt ok2 x (dst_mem hi hx),?_⟩
     rintro ⟨j,hj,o',ho',hd'⟩
     have:=dst_ne ok1 hi ho' hx hd'
     omega
    ·intro j b oj t hg hoj ht
     have:=gdOkL_lt ok3 hi hg
     exact ⟨j,by omega,oj,by simpa using hoj,ht⟩
    ·intro a' w' hs'
     refine ih (i+1) _ a' w' out2 hdr hr2 (fun p hp=>hvc p (appL_mem.2 (.inr hp))) he.2 hb.2 ?_ ?_
     ·obtain ⟨D',ρ',hs'⟩:=hs'
      refine ⟨D',ρ',hs'.mono (fun id h => ?_) (fun t h => ?_)⟩
      ·unfold sPlus sSet at h;unfold sSet;omega
      ·rcases h with ⟨j,hj,o',ho'⟩ | h
       ·exact ⟨j,by omega,o',ho'⟩
       ·exact ⟨i,by omega,o,hi,h⟩
     ·intro a'' w'' h
      refine hQ a'' w'' ?_
      have:i+1+r.length=i+(o::r).length:=by simp;omega
      rw [this] at h
      exact h
end
def purge1:TV→TV
 | .v x => .v x
 | .tup l => .tup l
 | .cnd _ _ _ => .junk
 | .junk => .junk
def purgeL:List (Nat×TV)→List (Nat×TV)
 | []=>[]
 | (t,v)::r=>(t,purge1 v)::purgeL r
def hasGd:List Oper→Bool
 | []=>false
 | o::r=>match o.guard with
  | some _=>true
  | none=>hasGd r
def St.done (st:St) (ops:List Oper) (base n:Nat):St:=match hasGd ops with
 | true=>⟨purgeL st.tm,st.hp,base+16*n⟩
 | false=>⟨purgeL st.tm,st.hp,base+16*n⟩
theorem look_purge (l:List (Nat×TV)) (t:Nat):look (purgeL l) t=(look l t).map purge1:=by
 induction l with
 | nil=>rfl
 | cons p r ih =>
  obtain ⟨k,v⟩:=p
  simp only [purgeL,look]
  cases Nat.beq k t
  ·exact ih
  ·rfl
def Sat0 (Γ:Ctx) (st:St) (a:Act) (w:World):Prop:=SatE Γ (fun id=>id<st.nx) (fun _=>False) st a w
theorem SatE.done {Γ:Ctx} {S W:Nat→Prop} {st:St} {a:Act} {w:World} {ops:List Oper} {base n:Nat} (hS:∀ id,S id→id<base+16*n) (h:SatE Γ S W st a w):Sat0 Γ (st.done ops base n) a w:=by
 obtain ⟨D,ρ,h⟩:=h
 have e:st.done ops base n=⟨purgeL st.tm,st.hp,base+16*n⟩:=by unfold St.done;split<;>rfl
 rw [e]
 refine ⟨D,ρ,{ h with tm := ?_,idT := ?_,idH:=fun id b hb=>⟨hS _ (h.idH id b hb).1,Blk.inS_mono hS (h.idH id b hb).2⟩,kinS:=fun i hi=>hS _ (h.kinS i hi) }⟩
 ·intro t v hv
  simp only at hv
  rw [look_purge] at hv
  cases hl:look st.tm t with
  | none=>simp [hl] at hv
  | some v0 =>
   simp only [hl,Option.map_some,Option.some.injEq] at hv
   subst hv
   obtain ⟨u,hu,hd⟩:=h.tm t v0 hl
   refine ⟨u,hu,?_⟩
   cases v0 with
   | v x=>exact hd
   | tup l=>exact hd
   | cnd t w x=>trivial
   | junk=>trivial
 ·intro t v hv
  simp only at hv
  rw [look_purge] at hv
  cases hl:look st.tm t with
  | none=>simp [hl] at hv
  | some v0 =>
   simp only [hl,Option.map_some,Option.some.injEq] at hv
   subst hv
   have:=TV.inS_mono hS (h.idT t v0 hl)
   cases v0 with
   | v x=>exact this
   | tup l=>exact this
   | cnd t w x=>trivial
   | junk=>trivial
end Go.Sv
end

/- Own texts for this claim: SvNext, Tf1, Tf2, SvLit, Te6, Tf3, Tf4, Tf5, Tf6, SvKeep, SvRead, Tf7, Tg1, Tg2, Tg3, Tg4, Tf8. -/
import Derived.Test.YtcohmieljbdlhaaGreatDoorMarkNoneCardP3
import Derived.Maps.RangeRun
import Derived.Test.YtcohmieljbdlhaaGreatDoorMarkNoneCardP7
import Derived.Test.YtcohmieljbdlhaaGreatDoorMarkNoneCardP5
import Derived.Test.YtcohmieljbdlhaaGreatDoorMarkNoneCardP6
import Derived.ChangeSlices
import Derived.Lib.SmallJoins
set_option linter.all false
section
namespace Go.Sv
open M
structure NxI where
 ops:Array Oper
 r:List Oper
 d:Nat
 iid:Nat
 n:Nat
 seen:List Nat
 m:List (List UInt8×V1)
 k:List KI
 mid:Nat
 mv:Bool
def nxInfo (N:Nat) (k:List KI) (st:St):Option NxI:=match k with
 | .code (.region _ ops false)::k=>match ops.toList,opsOk N ops.toList with
  | o::r,true=>match o.guard,o.dst,o.op with
   | none,some d,.next (.tmp t) false=>match look st.tm t with
    | some (.v (.c (.ptr iid 0)))=>match look st.hp iid with
     | some (.ob (.mi mid n seen))=>match look st.hp mid with
      | some (.ob (.ms m))=>some ⟨ops,r,d,iid,n,seen,m,k,mid,bNat (Nat.beq iid mid)⟩
      | _=>none
     | _=>none
    | _=>none
   | _,_,_=>none
  | _,_=>none
 | _=>none
where bNat:Bool→Bool
 | true=>false
 | false=>true
def nxOk (o:Option NxI):Bool:=match o with
 | some I=>I.mv
 | none=>false
def nxM (o:Option NxI):List (List UInt8×V1):=match o with
 | some I=>I.m
 | none=>[]
def nxS (o:Option NxI):List Nat:=match o with
 | some I=>I.seen
 | none=>[]
def nxN (o:Option NxI):Nat:=match o with
 | some I=>I.n
 | none=>0
def nxK (o:Option NxI):List KI:=match o with
 | some I=>I.k
 | none=>[]
def nxSt (I:NxI) (st:St) (j:Nat) (key:List UInt8) (v:V1):St :=
 (st.set (.bk I.iid) (.bk (.ob (.mi I.mid I.n (j::I.seen))))).set (.tm I.d) (.tv (.tup [.c (.bool true),.c (.str key),v]))
def nxSt0 (I:NxI) (st:St):St:=st.set (.tm I.d) (.tv (.tup [.c (.bool false)]))
def nxRun (P:Program) (G:Nat→Option (List Cell)) (N base:Nat) (o:Option NxI) (f:NxI→St):Option Out:=match o with
 | some I=>runOps (envOf P N I.ops.toList ({}:Ann P G)) [] base 1 I.r (f I)
 | none=>none
def nxOut (o:Option Out) (I:Option NxI) (base:Nat):St:=match I with
 | some I=>outSt o I.ops base
 | none=>⟨[],[],0⟩
def noE (o:Option Out):Bool:=match o with
 | some o=>no1 o.vc
 | none=>false
where no1:List Prop→Bool
 | []=>true
 | _=>false
theorem bNat_eq {b:Bool} (h:nxInfo.bNat b=true):b=false:=by cases b<;>simp_all [nxInfo.bNat]
theorem born_nodup {D:Dat} {m:List (List UInt8×V1)} {es:List MapEntry} (he:EsOk D m es 0):∀ e∈es,∃ j key v,m[j]?=some (key,v)∧e.key = .string ⟨key.toArray⟩∧FlatV D v e.val∧e.born=j∧j<m.length:=by
 intro e hm
 obtain ⟨j,hj,rfl⟩:=List.getElem_of_mem hm
 have hlt:j<m.length:=by rw [← he.1];exact hj
 have hmj:m[j]?=some ((m[j]).1,(m[j]).2):=by rw [List.getElem?_eq_getElem hlt]
 obtain ⟨en,q1,q2,q3,q4⟩:=he.2 j _ _ hmj
 rw [List.getElem?_eq_getElem hj] at q1
 simp only [Option.some.injEq] at q1
 subst q1
 exact ⟨j,_,_,hmj,q2,q3,by omega,hlt⟩
section
variable {P:Program} {G:Nat→Option (List Cell)} {N kn:Nat} {k:List KI} {Q:St→Prop} {st st':St}
theorem Wp.nextM (hI:nxOk (nxInfo N k st)=true) (hn:nxN (nxInfo N k st)=(nxM (nxInfo N k st)).length)
  (step:∀ j key v,(nxM (nxInfo N k st))[j]?=some (key,v)→j∉nxS (nxInfo N k st) →
   ∃ o,nxRun P G N st.nx (nxInfo N k st) (fun I=>nxSt I st j key v)=o∧noE o=true∧outE o=outF o∧Wp P G N kn (nxK (nxInfo N k st)) Q (nxOut o (nxInfo N k st) st.nx))
  (over:(∀ j,j<(nxM (nxInfo N k st)).length→j∈nxS (nxInfo N k st)) →
   ∃ o,nxRun P G N st.nx (nxInfo N k st) (fun I=>nxSt0 I st)=o∧noE o=true∧outE o=outF o∧Wp P G N kn (nxK (nxInfo N k st)) Q (nxOut o (nxInfo N k st) st.nx)) :
  Wp P G N kn k Q st:=by
 generalize hII:nxInfo N k st=I0 at hI hn step over
 cases I0 with
 | none=>simp [nxOk] at hI
 | some I =>
 have hmv:I.mv=true:=hI
 simp only [nxN,nxM,nxS,nxK] at hn step over
 unfold nxInfo at hII
 split at hII<;>try (cases hII)
 rename_i id ops k
 split at hII<;>try (cases hII)
 rename_i o r hops hok
 split at hII<;>try (cases hII)
 rename_i d t hg hdst hop
 split at hII<;>try (cases hII)
 rename_i iid hlt
 split at hII<;>try (cases hII)
 rename_i mid n seen hli
 split at hII<;>try (cases hII)
 rename_i m hlm
 have hne:iid≠mid:=(beq_ne _ _).1 (bNat_eq hmv)
 intro Γ h1 h2 h3 h4 a w hs
 subst h1 h2 h3
 simp only at step over hn
 refine wp_region ?_
 rw [List.range_eq_range',← Array.length_toList,hops]
 have hall:=hok
 obtain ⟨ok1,ok23⟩:=bAnd_eq hok
 obtain ⟨ok2,ok3⟩:=bAnd_eq ok23
 rw [hops] at ok1 ok2
 obtain ⟨D,ρ,h⟩:=hs
 obtain ⟨u,hu,hd⟩:=h.tm t _ hlt
 have hx:a.eval (.tmp t) = .pointer (some ⟨(ρ iid).1,0,none⟩):=by rw [tmps_getD hu];exact hd
 obtain ⟨h0,oi,hbo,ho⟩:=h.hp iid _ hli
 have ho:oi = .mapIter (some (ρ mid).1) n seen.reverse.toArray n:=ho
 subst ho
 obtain ⟨hm0,es,hbm,he⟩:=map_obj h hlm
 have hsz:es.toList.length=m.length:=he.1
 have hsz':es.size=m.length:=by rw [← hsz];simp
 have hdN:d<Γ.N:=by
  have:=allLt_lt ok2 d (by simp [dstL,hdst])
  exact this
 have hops0:ops[0]?=some o:=by
  have:ops.toList[0]?=some o:=by rw [hops];rfl
  simpa using this
 have hdr:ops.toList.drop (0+1)=r:=by rw [hops];rfl
 have hold:∀ x∈es.toList,x.born<n:=by
  intro x hx
  obtain ⟨j,_,_,_,_,_,hb,hj⟩:=born_nodup he x hx
  rw [hb,hn];exact hj
 have fin:∀ (v:Value) (w':World) (s1:St) (oo:Option Out),(Instr.next (a.eval (.tmp t)) false o.type).run Γ.P w = .ok v w' →
   Sat Γ (fun id=>id<st.nx) (fun x=>x=d) D ρ s1 (a.put (some d) v) w' →
   runOps (envOf Γ.P Γ.N ops.toList ({}:Ann Γ.P Γ.G)) [] st.nx 1 r s1=oo→noE oo=true→outE oo=outF oo→Wp Γ.P Γ.G Γ.N kn k Q (outSt oo ops st.nx) →
   wpOps Γ.P ops (fun e a' w'=>∃ st',post Γ k Q e st'∧Sat0 Γ st' a' w') (List.range' 0 (o::r).length) a w:=by
  intro v w' s1 oo hrun hsat hro hnoe hef hwp
  cases oo with
  | none=>simp [noE] at hnoe
  | some out =>
   simp only [List.length_cons,List.range'_succ]
   have hw:Region.wanted o (yielded ops a.tmps)=true:=by simp [Region.wanted,hg]
   simp only [wpOps,hops0,hw,if_true]
   left
   unfold Oper.wp
   have hex:(execOp a.eval o).run Γ.P w = .ok (.value v) w':=by
    unfold execOp
    rw [hop]
    simp only [Sem.run_bind,hrun,Result.andThen_ok,Sem.run_pure]
   rw [hex]
   simp only [Oper.upon_value]
   rw [hdst]
   simp only [outE,outF,Prod.mk.injEq] at hef
   refine run_text (Γ:=Γ) (E:=envOf Γ.P Γ.N ops.toList ({}:Ann Γ.P Γ.G)) rfl rfl (cs:=[]) rfl hall (base:=st.nx) r (0+1) s1 _ w' out hdr hro ?_ hef.1 hef.2 ⟨D,ρ,?_⟩ ?_
   ·intro p hp
    cases hv:out.vc with
    | nil=>rw [hv] at hp; cases hp
    | cons q l=>simp [noE,noE.no1,hv] at hnoe
   ·refine hsat.mono (fun id h => ?_) (fun x hx => ?_)
    ·unfold sSet;omega
    ·subst hx
     exact ⟨0,by omega,o,by rw [hops];rfl,hdst⟩
   ·intro a' w'' h
    refine ⟨_,hwp Γ rfl rfl rfl h4,?_⟩
    simp only [outSt,len_eq]
    refine SatE.done (fun id h => ?_) h
    unfold sSet at h
    have:(0+1)+r.length=ops.toList.length:=by rw [hops];simp;omega
    rw [this] at h;exact h
 rcases run_next_at (P:=Γ.P) w o.type (ρ iid).1 (ρ mid).1 n n seen.reverse.toArray es es.size hbo hbm hold (Nat.le_refl _) with ⟨hl0,hrun⟩ | ⟨e,hmem,w1,hw1,hrun⟩
 ·
  have hallseen:∀ j,j<m.length→j∈seen:=by
   intro j hj
   have hmj:m[j]?=some ((m[j]).1,(m[j]).2):=by rw [List.getElem?_eq_getElem hj]
   obtain ⟨en,q1,q2,q3,q4⟩:=he.2 j _ _ hmj
   have hin:en∈es.toList:=List.mem_of_getElem? q1
   have hse:=all_seen es seen.reverse.toArray hl0 en hin
   have:en.born=j:=by omega
   rw [this] at hse
   simpa using hse
  obtain ⟨oo,p1,p2,p3,p4⟩:=over hallseen
  refine fin _ _ _ oo (by rw [hx];exact hrun) ?_ p1 p2 p3 p4
  refine h.put (W':=fun x=>x=d) hdN (fun hh=>hh) (fun t ht=>ht.elim) (v := .tup [.c (.bool false)]) ⟨_,rfl,rfl,fun j x hj => ?_⟩ (fun j x hj => ?_)
  ·match j,hj with
   | 0,hj=>simp at hj; subst hj; exact ⟨_,rfl,rfl⟩
   | j+1,hj=>simp at hj
  ·match j,hj with
   | 0,hj=>simp at hj; subst hj; trivial
   | j+1,hj=>simp at hj
 ·obtain ⟨hem,hes⟩:=mem_left hmem
  obtain ⟨j,key,v,hmj,q2,q3,q4,hjl⟩:=born_nodup he e hem
  have hns:j∉seen:=by
   intro hh
   have:seen.reverse.toArray.contains e.born=true:=by simp [q4,hh]
   rw [this] at hes;cases hes
  obtain ⟨oo,p1,p2,p3,p4⟩:=step j key v hmj hns
  have hs1:Sat Γ (fun id=>id<st.nx) (fun _=>False) D ρ st a w1:=by
   rcases hw1 with rfl | rfl
   ·exact h
   ·exact h.drew
  have hbo1:w1.heap[(ρ iid).1]?=some (.mapIter (some (ρ mid).1) n seen.reverse.toArray n):=by
   rcases hw1 with rfl | rfl
   ·exact hbo
   ·exact hbo
  have hone:=(setObj_run (P:=Γ.P) hbo1 trivial (o' := .mapIter (some (ρ mid).1) n (seen.reverse.toArray.push e.born) es.size))
  have hid:=h.idH iid _ hli
  have hup:=hs1.upd hli h0 hone.2 (b' := .ob (.mi mid n (j::seen))) ⟨h0,_,hone.2.at_,by
   show Obj.mapIter _ _ _ _=Obj.mapIter _ _ _ _
   rw [q4]
   congr 1
   ·simp
   ·omega⟩ hid.2
  refine fin _ _ _ oo (by rw [hx];exact hrun) ?_ p1 p2 p3 p4
  refine hup.put (W':=fun x=>x=d) hdN (fun hh=>hh) (fun t ht=>ht.elim) (v := .tup [.c (.bool true),.c (.str key),v]) ⟨_,rfl,rfl,fun i x hi => ?_⟩ (fun i x hi => ?_)
  ·match i,hi with
   | 0,hi=>simp at hi; subst hi; exact ⟨_,rfl,rfl⟩
   | 1,hi=>simp at hi; subst hi; exact ⟨_,rfl,q2⟩
   | 2,hi=>simp at hi; subst hi; exact ⟨_,rfl,q3.1 ρ⟩
   | i+3,hi=>simp at hi
  ·match i,hi with
   | 0,hi=>simp at hi; subst hi; trivial
   | 1,hi=>simp at hi; subst hi; trivial
   | 2,hi=>simp at hi; subst hi; exact q3.2 _
   | i+3,hi=>simp at hi
def Nx (P:Program) (G:Nat→Option (List Cell)) (N kn:Nat) (k:List KI) (Q:St→Prop) (st:St) (f:NxI→St):Prop :=
 ∃ o,nxRun P G N st.nx (nxInfo N k st) f=o∧noE o=true∧outE o=outF o∧Wp P G N kn (nxK (nxInfo N k st)) Q (nxOut o (nxInfo N k st) st.nx)
theorem Nx.mk {f:NxI→St} (h1:noE (nxRun P G N st.nx (nxInfo N k st) f)=true) (h2:outE (nxRun P G N st.nx (nxInfo N k st) f)=outF (nxRun P G N st.nx (nxInfo N k st) f))
  (h3:Wp P G N kn (nxK (nxInfo N k st)) Q (nxOut (nxRun P G N st.nx (nxInfo N k st) f) (nxInfo N k st) st.nx)):Nx P G N kn k Q st f:=⟨_,rfl,h1,h2,h3⟩
theorem Wp.nextK (m:List (List UInt8×V1)) (seen:List Nat) (hI:nxOk (nxInfo N k st)=true) (hm:nxM (nxInfo N k st)=m) (hs:nxS (nxInfo N k st)=seen) (hn:nxN (nxInfo N k st)=m.length)
  (step:∀ j key v,m[j]?=some (key,v)→j∉seen→Nx P G N kn k Q st (fun I=>nxSt I st j key v))
  (over:(∀ j,j<m.length→j∈seen)→Nx P G N kn k Q st (fun I=>nxSt0 I st)):Wp P G N kn k Q st:=by
 subst hm hs
 exact Wp.nextM hI hn step over
theorem seen_more {n j:Nat} {seen:List Nat} (hd:seen.Nodup) (hl:∀ x∈seen,x<n) (hj:j<n) (hns:j∉seen):(j::seen).Nodup∧(∀ x∈j::seen,x<n)∧n-(j::seen).length<n-seen.length:=by
 have h1:(j::seen).Nodup:=List.nodup_cons.2 ⟨hns,hd⟩
 have h2:∀ x∈j::seen,x<n:=fun x hx=>by
  rcases List.mem_cons.1 hx with rfl | h
  ·exact hj
  ·exact hl x h
 have h3:=nodup_le h1 h2
 refine ⟨h1,h2,?_⟩
 simp only [List.length_cons] at h3 ⊢
 omega
end
end Go.Sv
end
section
open Go Go.Sv Go.RowKit
namespace Go.Proofs.Tw
attribute [local irreducible] Wp FinQ resV Ent Pur Go.Sv.Fn Sat0
set_option maxRecDepth 100000
set_option maxHeartbeats 4000000
variable {G:Nat→Option (List Cell)} [Back G]
def keyM (t:Tm):List UInt8:=markB (toT t)
def insM (L:List Tm) (t:Tm):List Tm:=if (L.any fun u=>keyM t==keyM u)=true then L else L++[t]
def insL (L:List Tm) (ts:List Tm):List Tm:=ts.foldl insM L
def obM (L:List Tm):List (List UInt8×V1):=L.map (fun t=>(keyM t,V1.agg (encK (toK t))))
theorem mark_inj {t u:TT} (ht:mayTT t=true) (hu:mayTT u=true) (h:markB t=markB u):t=u:=by
 unfold markB at h
 rw [if_pos ht,if_pos hu] at h
 have h1:=List.append_cancel_right h
 exact putB_inj ht hu (enc_inj (List.append_cancel_left h1))
theorem key_inj {t u:Tm} (ht:mayTT (toT t)=true) (hu:mayTT (toT u)=true) (h:keyM t=keyM u):t=u:=toT_inj (mark_inj ht hu h)
theorem mset_ob (t:Tm) (ht:mayTT (toT t)=true):∀ (L:List Tm),(∀ u∈L,mayTT (toT u)=true)→mset (obM L) (keyM t) (.agg (encK (toK t)))=obM (insM L t)
 | [],_=>rfl
 | u::L,h=>by
  have ih:=mset_ob t ht L (fun x hx=>h x (by simp [hx]))
  show mset ((keyM u,V1.agg (encK (toK u)))::obM L) (keyM t) (.agg (encK (toK t)))=_
  unfold insM at ih ⊢
  rw [mset,List.any_cons]
  cases hb:(keyM t==keyM u) with
  | true =>
   have e:=key_inj ht (h u (by simp)) (eq_of_beq hb)
   subst e
   rw [if_pos rfl,Bool.true_or,if_pos rfl]
   rfl
  | false =>
   rw [if_neg dC,Bool.false_or,ih]
   split<;>rfl
theorem insM_mem (L:List Tm) (t x:Tm):x∈insM L t→x∈L∨x=t:=by
 unfold insM;split
 ·exact .inl
 ·intro h;simpa using h
theorem insM_may {L:List Tm} {t:Tm} (h:∀ u∈L,mayTT (toT u)=true) (ht:mayTT (toT t)=true):∀ u∈insM L t,mayTT (toT u)=true:=fun u hu=>by
 rcases insM_mem L t u hu with h1 | rfl
 ·exact h u h1
 ·exact ht
theorem insM_has {L:List Tm} {t:Tm} (h:∀ u∈L,mayTT (toT u)=true) (ht:mayTT (toT t)=true) (x:Tm):x∈insM L t↔x∈L∨x=t:=by
 refine ⟨insM_mem L t x,fun hx => ?_⟩
 unfold insM;split
 ·rename_i ha
  rcases hx with hx | rfl
  ·exact hx
  ·obtain ⟨u,hu,e⟩:=List.any_eq_true.1 ha
   rw [key_inj ht (h u hu) (eq_of_beq e)]
   exact hu
 ·simpa using hx
theorem insM_nd {L:List Tm} {t:Tm} (h:L.Nodup):(insM L t).Nodup:=by
 unfold insM;split
 ·exact h
 ·rename_i ha
  refine List.nodup_append.2 ⟨h,by simp,fun a ha2 b hb => ?_⟩
  rw [List.mem_singleton.1 hb]
  rintro rfl
  exact ha (List.any_eq_true.2 ⟨a,ha2,by simp⟩)
theorem insL_all:∀ (ts L:List Tm),L.Nodup→(∀ u∈L,mayTT (toT u)=true)→(∀ u∈ts,mayTT (toT u)=true)→(insL L ts).Nodup∧(∀ u∈insL L ts,mayTT (toT u)=true)∧∀ x,x∈insL L ts↔x∈L∨x∈ts
 | [],L,h1,h2,h3=>⟨h1,h2,fun x=>by simp [insL]⟩
 | t::ts,L,h1,h2,h3=>by
  have ht:=h3 t (by simp)
  have ih:=insL_all ts (insM L t) (insM_nd h1) (insM_may h2 ht) (fun u hu=>h3 u (by simp [hu]))
  refine ⟨ih.1,ih.2.1,fun x => ?_⟩
  show x∈insL (insM L t) ts↔_
  rw [ih.2.2,insM_has h2 ht,List.mem_cons,or_assoc]
theorem insM_len (L:List Tm) (t:Tm):(insM L t).length≤L.length+1:=by unfold insM;split<;>simp
theorem insL_len:∀ (ts L:List Tm),(insL L ts).length≤L.length+ts.length
 | [],L=>Nat.le_refl _
 | t::ts,L=>by
  have:=insL_len ts (insM L t)
  have:=insM_len L t
  show (insL (insM L t) ts).length≤_
  simp only [List.length_cons];omega
theorem insL_snoc (L ts:List Tm) (t:Tm):insL L (ts++[t])=insM (insL L ts) t:=by unfold insL;rw [List.foldl_append];rfl
theorem puts_ok (L ts:List Tm) (hL:∀ u∈L,mayTT (toT u)=true) (ht:∀ u∈ts,mayTT (toT u)=true) (hn:L.length+ts.length≤1000000) :
  FnB Tryz.prog G 89 [.ob (.ms (obM L))] [.c (.map 0),.c (.sl 4 ts.length (rowF encK .nil (ts.map toK)))] [] [(0,.ob (.ms (obM (insL L ts))))]:=by
 obtain ⟨F,hF⟩:∃ F,F=rowF encK .nil (ts.map toK):=⟨_,rfl⟩
 have e1:∀ k,EqvD (.agg [F k 0,F k 1,F k 2,F k 3]) (.agg (encK ((ts.map toK).getD k .nil))):=fun k=>eqvD_of (by rw [hF];rfl)
 rw [← hF]
 clear hF
 refine zf Tryz.func89 ?_
 refine z0 [] [] ?_
 refine zl (fun (x:Nat×List Tm)=>⟨[(0,.v (.c (.map 0))),(6,.v (.c (.sl 4 ts.length F))),(7,.v (.c (.int .i64 (ts.length:Int)))),(8,.v (.c (.int .i64 (x.1:Int))))],[(0,.ob (.ms (obM x.2)))],64⟩) (fun x=>x.1≤ts.length∧x.2=insL L (ts.take x.1)) (fun x=>ts.length-x.1) (0,L) ⟨Nat.zero_le _,rfl⟩ ?_
 rintro ⟨k,M⟩ W ⟨hk,hM⟩ again
 have hk:k≤ts.length:=hk
 have hM:M=insL L (ts.take k):=hM
 have hMm:∀ u∈M,mayTT (toT u)=true:=by
  intro u hu
  rw [hM] at hu
  have:u∈L∨u∈ts:=by
   have hmem:∀ (r A:List Tm),u∈insL A r→u∈A∨u∈r:=by
    intro r
    induction r with
    | nil=>intro A h; exact .inl h
    | cons t r ih =>
     intro A h
     rcases ih _ h with h | h
     ·rcases insM_mem A t u h with h | rfl
      ·exact .inl h
      ·exact .inr (by simp)
     ·exact .inr (by simp [h])
   rcases hmem _ _ hu with h | h
   ·exact .inl h
   ·exact .inr (List.mem_of_mem_take h)
  rcases this with h | h
  ·exact hL u h
  ·exact ht u h
 by_cases hi:k<ts.length
 ·have hlt:decide ((k:Int)<(ts.length:Int))=true:=by simp;omega
  have e1:=e1 k
  have hx:(ts.map toK).getD k .nil=toK ts[k]:=by rw [List.getD_eq_getElem?_getD,List.getElem?_map,List.getElem?_eq_getElem hi];rfl
  rw [hx] at e1
  have hmk:=ht _ (List.getElem_mem hi)
  have c:=textT_ok (G:=G) (low_toT ts[k]) (toK ts[k]) (Rep_toK ts[k])
  have c:Pur Tryz.prog G 36 [.agg (encK (toK ts[k]))] [.c (.str (keyM ts[k]))]:=c
  have hs:=mset_ob ts[k] hmk M hMm
  have hb:BlkEqv (.ob (.ms (mset (obM M) (keyM ts[k]) (.agg (encK (toK ts[k])))))) (.ob (.ms (obM (insM M ts[k])))):=BlkEqv.of_eq (by rw [hs])
  have hq:k+1≤ts.length∧insM M ts[k]=insL L (ts.take (k+1)):=⟨hi,by rw [List.take_succ_eq_append_getElem hi,insL_snoc,← hM]⟩
  clear hs hM hMm hL ht hx hmk
  generalize insM M ts[k]=M2 at *
  generalize ts[k]=t at *
  generalize keyM t=key at *
  generalize toK t=y at *
  refine zg [(2,{fm:=[(1,.agg (encK y))]}),(3,{cs:=[(2,pc c)],bs:=[(4,.ob (.ms (obM M2)))]})] [true] [decide ((k:Int)<(ts.length:Int))=true,(0:Int)≤(k:Int)∧(k:Int)<(ts.length:Int),EqvD (.agg [F k 0,F k (0+1),F k (0+1+1),F k (0+1+1+1)]) (.agg (encK y)),BlkEqv (.ob (Ob.ms (mset (obM M) key (.agg (encK y))))) (.ob (Ob.ms (obM M2))),inR .i64 ((k:Int)+1)] ⟨aS,oM,aS,aS,i6⟩ ?_
  exact za [] (again _ (k+1,M2) oM oM)
 ·have hlt:decide ((k:Int)<(ts.length:Int))=false:=by simp;omega
  have hE:M=insL L ts:=by rw [hM,List.take_of_length_le oM]
  rw [← hE]
  clear again hM hMm hL ht hE e1
  refine zg [] [false] [decide ((k:Int)<(ts.length:Int))=false] (oN aS) ?_
  exact zb []
theorem tells_len:∀ (s cur:List UInt8),((runsF s cur).flatMap tellT).length≤2*(s.length+cur.length)
 | [],cur=>by
  rw [runsF];split
  ·simp
  ·rename_i h
   have:=tell_len cur
   have:=List.length_pos_iff.2 h
   simp;omega
 | c::r,cur=>by
  rw [runsF];split
  ·have:=tells_len r (cur++[c]);simp at *;omega
  ·have h2:=tells_len r []
   split
   ·simp at *;omega
   ·rename_i h
    have:=tell_len cur
    have:=List.length_pos_iff.2 h
    simp at *;omega
theorem all_len (s:List UInt8):(allM s).length≤3*s.length+1:=by
 have h1:=plain_len s
 have h2:=tells_len s []
 unfold allM
 rw [List.length_append]
 rw [show ([]:List UInt8).length=0 from rfl,Nat.add_zero] at h2
 omega
theorem run_len:∀ (s cur x:List UInt8),x∈runsF s cur→x.length≤s.length+cur.length
 | [],cur,x,h=>by
  rw [runsF] at h;split at h
  ·cases h
  ·rw [List.mem_singleton.1 h];simp
 | c::r,cur,x,h=>by
  rw [runsF] at h;split at h
  ·have:=run_len r _ x h;simp at *;omega
  ·split at h
   ·have:=run_len r _ x h;simp at *;omega
   ·rcases List.mem_cons.1 h with rfl | h
    ·simp
    ·have:=run_len r _ x h;simp at *;omega
def valsM (M:List Tm):List Nat→List Tm
 | []=>[]
 | j::r=>valsM M r++[M.getD j (.no 0)]
theorem valsM_eq (M:List Tm):∀ l,valsM M l=(l.map (fun j=>M.getD j (.no 0))).reverse
 | []=>rfl
 | j::r=>by rw [valsM,valsM_eq M r]; simp
theorem valsM_perm (M:List Tm) (seen:List Nat) (h1:seen.Nodup) (h2:∀ j∈seen,j<M.length) (h3:∀ j,j<M.length→j∈seen):(valsM M seen).Perm M:=by
 have hp:seen.Perm (List.range M.length):=(List.perm_ext_iff_of_nodup h1 List.nodup_range).2 fun a=>by
  rw [List.mem_range];exact ⟨h2 a,h3 a⟩
 have hm:(List.range M.length).map (fun j=>M.getD j (.no 0))=M:=by
  apply List.ext_getElem
  ·simp
  ·intro i h _;simp at h ⊢;simp [h]
 rw [valsM_eq]
 have:=hp.map (fun j=>M.getD j (.no 0))
 rw [hm] at this
 exact (List.reverse_perm _).trans this
theorem valsM_len (M:List Tm) (l:List Nat):(valsM M l).length=l.length:=by rw [valsM_eq];simp
theorem obM_at {M:List Tm} {j:Nat} {key:List UInt8} {v:V1} (h:(obM M)[j]?=some (key,v)):j<M.length∧key=keyM (M.getD j (.no 0))∧v = .agg (encK (toK (M.getD j (.no 0)))):=by
 unfold obM at h
 rw [List.getElem?_map] at h
 cases hj:M[j]? with
 | none=>rw [hj] at h; cases h
 | some x =>
  rw [hj] at h
  simp only [Option.map_some,Option.some.injEq,Prod.mk.injEq] at h
  obtain ⟨hlt,hx⟩:=List.getElem?_eq_some_iff.1 hj
  have hd:M.getD j (.no 0)=x:=by rw [List.getD_eq_getElem?_getD,hj];rfl
  rw [hd]
  exact ⟨hlt,h.1.symm,h.2.symm⟩
theorem obM_len (M:List Tm):(obM M).length=M.length:=List.length_map _
theorem RepL_tm (l:List Tm):RepL (l.map toT) (rowF encK .nil (l.map toK)) 0:=by
 refine RepL_of fun j hj=>⟨toK (l.getD j (.no 0)),?_,?_⟩
 ·rw [List.length_map] at hj
  rw [Nat.zero_add]
  have:(l.map toK).getD j .nil=toK (l.getD j (.no 0)):=by simp [List.getD,hj]
  show [nthD (encK ((l.map toK).getD j .nil)) 0,_,_,_]=_
  unfold rowF
  rw [this]
  rfl
 ·rw [List.length_map] at hj
  have:(l.map toT).getD j .nil=toT (l.getD j (.no 0)):=by simp [List.getD,hj]
  rw [this]
  exact Rep_toK _
theorem pur_s {P:Program} {f:FuncId} {cs:List V1} {x x':V1} (h:Pur P G f cs [x]) (e:EqvD x x') (hi:∀ S,x'.inS S):Pur P G f cs [x']:=by
 unfold Pur Go.Sv.Fn at h ⊢
 intro D ρ w vs h1 h2 hgw h3 h4 h5
 refine (h D ρ w vs h1 h2 hgw h3 h4 h5).mono ?_
 rintro q w' ⟨rs,ho,D',ρ',v,q1,⟨rfl,rfl⟩,q3,q4,q5⟩
 refine ⟨_,_,D',ρ',v,q1,⟨rfl,rfl⟩,e _ _ _ q3,?_,q5⟩
 intro j z hz
 match j,hz with
 | 0,hz=>cases hz; exact hi _
 | _+1,hz=>cases hz
def fst1 (s:List UInt8):List TT:=(findP s).map Prod.fst
def rowF1 (s:List UInt8):Cell := .sl 4 (fst1 s).length (rowF encK .nil ((fst1 s).map ktOf))
def outS (M:List Tm):List Nat×Option (Nat×List KT)→St
 | (seen,none)=>⟨[(3,.v (.c (.map 16))),(8,.v (.c .nilsl)),(37,.v (.c (.ptr 224 0)))],[(16,.ob (.ms (obM M))),(224,.ob (.mi 16 (obM M).length seen))],240⟩
 | (seen,some (n,l))=>⟨[(3,.v (.c (.map 16))),(8,.v (.c (.row 4 40 0 n))),(37,.v (.c (.ptr 224 0)))],[(16,.ob (.ms (obM M))),(224,.ob (.mi 16 (obM M).length seen)),(40,.row 64 4 n (rowF encK .nil l))],240⟩
def outF (M:List Tm) (x:List Nat×Option (Nat×List KT)):Prop:=x.1.Nodup∧(∀ j∈x.1,j<M.length)∧match x.2 with
 | none=>x.1=[]
 | some (n,l)=>l=(valsM M x.1).map toK∧n=x.1.length∧0<n
theorem find_ok {m:Int} (hG:G 1=some [.int .i64 m]) (s:List UInt8) (hs:s.length≤200000):Pur Tryz.prog G 39 [.c (.str s)] [.c (rowF1 s)]:=by
 have c1:=mplain_ok hG s oM
 have hmay:=fun t (h:t∈allM s)=>all_may h
 have hpl:=plain_len s
 have hall:=all_len s
 have hpm:∀ u∈plainT s,mayTT (toT u)=true:=fun u hu=>hmay u (List.mem_append_left _ hu)
 have c2:=puts_ok (G:=G) [] (plainT s) (fun u h=>by cases h) hpm sO
 have c3:=fields_ok (G:=G) s oM
 have hrl:∀ x∈runsF s [],x.length≤s.length:=fun x h=>by have:=run_len s [] x h;simpa using this
 have hA:plainT s++(runsF s []).flatMap tellT=allM s:=rfl
 obtain ⟨rs,hrs⟩:∃ rs,rs=runsF s []:=⟨_,rfl⟩
 rw [← hrs] at c3 hrl hA
 have hrn:rs.length≤s.length+1:=by rw [hrs];exact runsF_len s []
 clear hrs
 refine zp Tryz.func39 ?_
 obtain ⟨F0,hF0⟩:∃ F,F=rowF encK .nil ((plainT s).map toK):=⟨_,rfl⟩
 rw [← hF0] at c1 c2
 obtain ⟨M0,hM0⟩:∃ M,M=insL [] (plainT s):=⟨_,rfl⟩
 rw [← hM0] at c2
 refine z0 [(2,{cs:=[(2,pc c1),(3,cb [16] c2)]}),(3,{cs:=[(1,pc c3)]})] [] ?_
 refine zl (fun (x:Nat×List Tm)=>⟨[(3,.v (.c (.map 16))),(17,.v (.c (.sl 1 rs.length (strsF rs)))),(18,.v (.c (.int .i64 (rs.length:Int)))),(19,.v (.c (.int .i64 (x.1:Int))))],[(16,.ob (.ms (obM x.2)))],176⟩) (fun x=>x.1≤rs.length∧∃ X,x.2=insL [] X∧X++(rs.drop x.1).flatMap tellT=allM s) (fun x=>rs.length-x.1) (0,M0) ⟨Nat.zero_le _,_,hM0,hA⟩ ?_
 rintro ⟨i,M⟩ W ⟨hi,X,hM,hX⟩ again
 have hi:i≤rs.length:=hi
 have hM:M=insL [] X:=hM
 have hX:X++(rs.drop i).flatMap tellT=allM s:=hX
 have hXm:∀ u∈X,mayTT (toT u)=true:=fun u hu=>hmay u (by rw [← hX];exact List.mem_append_left _ hu)
 have hML:=insL_all X [] List.nodup_nil (fun u h=>by cases h) hXm
 rw [← hM] at hML
 have hMn:M.length≤X.length:=by have:=insL_len X [];rw [← hM] at this;simpa using this
 have hXn:X.length≤3*s.length+1:=by have:=congrArg List.length hX;rw [List.length_append] at this;omega
 clear hF0 hM0 hA hpm
 by_cases hlt:i<rs.length
 ·have hlb:decide ((i:Int)<(rs.length:Int))=true:=by simp;omega
  have hrun:=hrl _ (List.getElem_mem hlt)
  rw [List.drop_eq_getElem_cons hlt,List.flatMap_cons] at hX
  have hgd:rs.getD i []=rs[i]:=by rw [List.getD_eq_getElem?_getD,List.getElem?_eq_getElem hlt];rfl
  rw [← hgd] at hrun hX
  have c4:=dec64_ok (G:=G) (rs.getD i []) oM
  obtain ⟨run,hr⟩:∃ run,run=rs.getD i []:=⟨_,rfl⟩
  have e0:EqvD (.c (.str (rs.getD i []))) (.c (.str run)):=eqvD_of (by rw [hr])
  rw [← hr] at c4 hX hrun
  cases hd:dec8 run with
  | none =>
   have ht:tellT run=[]:=by unfold tellT;rw [hd]
   rw [decR_none hd] at c4
   rw [ht,List.nil_append] at hX
   have hq:i+1≤rs.length∧∃ X,M=insL [] X∧X++(rs.drop (i+1)).flatMap tellT=allM s:=⟨hlt,X,hM,hX⟩
   clear hM hX hXm hML hmay hrl hr hd ht hgd
   refine zg [(5,{fm:=[(1,.c (.str run))]}),(6,{cs:=[(1,pc c4)]})] [true,false] [decide ((i:Int)<(rs.length:Int))=true,(0:Int)≤(i:Int)∧(i:Int)<(rs.length:Int),EqvD (.c (strsF rs i 0)) (.c (.str run)),((3:Int)==(0:Int))=false,inR .i64 ((i:Int)+1)] ⟨aS,oM,aS,rfl,i6⟩ ?_
   exact za [] (again _ (i+1,M) oM oM)
  | some o =>
   have ht:tellT run=plainT o:=by unfold tellT;rw [hd]
   have hol:=dec8_len hd
   rw [decR_some hd] at c4
   have c4:=pur_r c4 (slB_D o) (fun _=>trivial)
   rw [ht,← List.append_assoc] at hX
   have hom:∀ u∈plainT o,mayTT (toT u)=true:=fun u hu=>hmay u (by rw [← hX];exact List.mem_append_left _ (List.mem_append_right _ hu))
   have hon:=plain_len o
   have c5:=mplain_ok hG o oM
   have c6:=puts_ok (G:=G) M (plainT o) hML.2.1 hom oM
   have hq:i+1≤rs.length∧∃ X,insL M (plainT o)=insL [] X∧X++(rs.drop (i+1)).flatMap tellT=allM s:=⟨hlt,X++plainT o,by rw [hM];unfold insL;rw [List.foldl_append],hX⟩
   have eb:EqvD (.c (.str (byteL (bytesF o) 0 o.length))) (.c (.str o)):=eqvD_of (by rw [byteL_F o rfl])
   generalize insL M (plainT o)=M2 at *
   generalize rowF encK .nil ((plainT o).map toK)=F5 at *
   generalize (plainT o).length=n5 at *
   clear hM hX hXm hML hmay hrl hr hd ht hgd hom
   refine zg [(5,{fm:=[(1,.c (.str run))]}),(8,{cs:=[(3,pc c5),(4,cb [16] c6)],fm:=[(2,.c (.str o))]}),(6,{cs:=[(1,pc c4)]})] [true,true] [decide ((i:Int)<(rs.length:Int))=true,(0:Int)≤(i:Int)∧(i:Int)<(rs.length:Int),EqvD (.c (strsF rs i 0)) (.c (.str run)),((0:Int)==(0:Int))=true,EqvI (.c (.str (byteL (bytesF o) 0 o.length))) (.c (.str o)),EqvD (.c (.str (byteL (bytesF o) 0 o.length))) (.c (.str o)),areBytes (bytesF o) 0 o.length,inR .i64 ((i:Int)+1)] ⟨aS,oM,aS,rfl,fun _ _=>trivial,aS,areBytes_F _ _ _,i6⟩ ?_
   exact za [] (again _ (i+1,M2) oM oM)
 ·have hlb:decide ((i:Int)<(rs.length:Int))=false:=by simp;omega
  rw [List.drop_eq_nil_of_le oM,List.flatMap_nil,List.append_nil] at hX
  subst hX
  clear again hrl
  have hMn:M.length≤1000000:=by omega
  have hMi:∀ x,x∈M↔x∈allM s:=fun x=>by rw [hML.2.2 x];simp
  refine zg [] [false] [decide ((i:Int)<(rs.length:Int))=false] (oN aS) ?_
  refine zl (outS M) (outF M) (fun x=>M.length-x.1.length) ([],none) ⟨List.nodup_nil,fun _ h=>(by cases h),rfl⟩ ?_
  rintro ⟨seen,o⟩ W2 ⟨hnd,hls,ho⟩ again
  have hnd:seen.Nodup:=hnd
  have hls:∀ j∈seen,j<M.length:=hls
  have hsl:seen.length≤M.length:=by
   have:=List.Nodup.length_le_of_subset hnd (l₂:=List.range M.length) (fun j hj=>List.mem_range.2 (hls j hj))
   simpa using this
  have hv:∀ j,j<M.length→((obM M).getD j ([],.c .nilif)).2 = .agg (encK (toK (M.getD j (.no 0)))):=fun j hj=>by
   unfold obM
   rw [List.getD_eq_getElem?_getD,List.getElem?_map,List.getElem?_eq_getElem hj,List.getD_eq_getElem?_getD,List.getElem?_eq_getElem hj];rfl
  match o,ho with
  | none,ho =>
   have ho:seen=[]:=ho
   subst ho
   refine zn [] 1 [] [] trivial ?_
   refine Wp.nextK (obM M) [] kR kR kR kR (fun j key v hj hns => ?_) (fun hover => ?_)
   ·obtain ⟨hjl,rfl,rfl⟩:=obM_at hj
    refine Nx.mk kR kR ?_
    have hv:=hv j hjl
    have hjs:j<(obM M).length:=by rw [obM_len];exact hjl
    have hq:outF M ([j],some (1,[toK (M.getD j (.no 0))])):=⟨by simp,fun i hi=>by rw [List.mem_singleton.1 hi];exact hjl,rfl,rfl,by omega⟩
    obtain ⟨y,hy⟩:∃ y,y=toK (M.getD j (.no 0)):=⟨_,rfl⟩
    rw [← hy] at hv hq ⊢
    have e1:EqvD ((obM M).getD j ([],.c .nilif)).2 (.agg (encK y)):=eqvD_of hv
    have e2:EqvI ((obM M).getD j ([],.c .nilif)).2 (.agg (encK y)):=by rw [hv];exact fun _ h=>h
    have e3:BlkEqv (.row 64 4 1 (catF 0 (fun _ _ => .nilif) (fun i j=>nthD (encK y) ((0+i)*4+j)))) (.row 64 4 1 (rowF encK .nil [y])):=kid_new y
    clear hy hv hj hmay hML hMi
    refine zg [(13,{fm:=[(1,.agg (encK y))]}),(14,{bs:=[(3,.row 64 4 1 (rowF encK .nil [y]))]})] [true] [true=true,j<(obM M).length,(obM M).length=(obM M).length,EqvI ((obM M).getD j ([],.c .nilif)).snd (.agg (encK y)),EqvD ((obM M).getD j ([],.c .nilif)).snd (.agg (encK y)),56≤140737488355328,BlkEqv (.row 64 4 1 (catF 0 (fun (x x_1:Nat) => .nilif) fun i j=>nthD (encK y) ((0+i)*4+j))) (.row 64 4 1 (rowF encK KT.nil [y])),0+1≤1] ⟨rfl,aS,rfl,eqvI_flat _ _ kR,aS,oM,aS,(show (0:Nat)+(1:Nat)≤(1:Nat) from oM)⟩ ?_
    exact za [(40,384)] (again _ ([j],some (1,[y])) aS sO)
   ·refine Nx.mk kR kR ?_
    have hM0:M=[]:=by
     cases M with
     | nil=>rfl
     | cons x r=>have:=hover 0 (by rw [obM_len]; simp); cases this
    have hf:fst1 s=[]:=by
     unfold fst1
     cases hfp:findP s with
     | nil=>rfl
     | cons x r =>
      obtain ⟨t,ht,_⟩:=findP_mem (show x∈findP s by rw [hfp];simp)
      have:=(hMi t).2 ht
      rw [hM0] at this;cases this
    have c:=pur_s (tsort0_ok (G:=G)) (x' := .c (.sl 4 0 (rowF encK .nil []))) (EqvD.sl rfl fun i hi j hj=>absurd hi (Nat.not_lt_zero i)) (fun _=>trivial)
    unfold rowF1
    rw [hf]
    clear hML hMi hmay hv hM0 hf hover
    refine zg [(15,{cs:=[(1,pc c)]})] [false] [false=false] rfl ?_
    exact zr
  | some (n,l),ho =>
   obtain ⟨h1,h2,h3⟩:=ho
   have h1:l=(valsM M seen).map toK:=h1
   have h2:n=seen.length:=h2
   refine zn [] 1 [] [] trivial ?_
   refine Wp.nextK (obM M) seen kR kR kR kR (fun j key v hj hns => ?_) (fun hover => ?_)
   ·obtain ⟨hjl,rfl,rfl⟩:=obM_at hj
    refine Nx.mk kR kR ?_
    have hv:=hv j hjl
    have hjs:j<(obM M).length:=by rw [obM_len];exact hjl
    obtain ⟨m1,m2,m3⟩:=seen_more hnd hls hjl hns
    have hq:outF M (j::seen,some (n+1,l++[toK (M.getD j (.no 0))])):=⟨m1,m2,by rw [h1];show _=(valsM M seen++[_]).map toK;rw [List.map_append];rfl,by rw [h2];rfl,by omega⟩
    have hln:n=l.length:=by rw [h1,h2,List.length_map,valsM_len]
    obtain ⟨y,hy⟩:∃ y,y=toK (M.getD j (.no 0)):=⟨_,rfl⟩
    rw [← hy] at hv hq ⊢
    have e1:EqvD ((obM M).getD j ([],.c .nilif)).2 (.agg (encK y)):=eqvD_of hv
    have e2:EqvI ((obM M).getD j ([],.c .nilif)).2 (.agg (encK y)):=by rw [hv];exact fun _ h=>h
    have e3:BlkEqv (.row 64 4 (n+1) (catF n (rowF encK .nil l) (fun i j=>nthD (encK y) ((0+i)*4+j)))) (.row 64 4 (n+1) (rowF encK .nil (l++[y]))):=enc_app l y hln
    clear hy hv hj hmay hML hMi h1
    refine zg [(13,{fm:=[(1,.agg (encK y))]}),(14,{bs:=[(3,.row 64 4 (n+1) (rowF encK .nil (l++[y])))]})] [true] [true=true,j<(obM M).length,(obM M).length=(obM M).length,EqvI ((obM M).getD j ([],.c .nilif)).snd (.agg (encK y)),EqvD ((obM M).getD j ([],.c .nilif)).snd (.agg (encK y)),(n+1)*56≤140737488355328,BlkEqv (.row 64 4 (n+1) (catF n (rowF encK KT.nil l) fun i j=>nthD (encK y) ((0+i)*4+j))) (.row 64 4 (n+1) (rowF encK KT.nil (l++[y]))),n≤n,0+1≤1] ⟨rfl,aS,rfl,eqvI_flat _ _ kR,aS,oM,aS,oM,(show (0:Nat)+(1:Nat)≤(1:Nat) from oM)⟩ ?_
    exact za [(40,384)] (again _ (j::seen,some (n+1,l++[y])) aS oM)
   ·refine Nx.mk kR kR ?_
    have hp:=valsM_perm M seen hnd hls (fun j hj=>hover j (by rw [obM_len];exact hj))
    have hvl:=valsM_len M seen
    have hpn:((valsM M seen).map toT).Nodup:=List.Pairwise.map toT (fun a b h e=>h (toT_inj e)) (hp.nodup_iff.2 hML.1)
    have hfp:(fst1 s).Perm ((valsM M seen).map toT):=find_perm hpn fun x=>by
     rw [List.mem_map]
     constructor
     ·rintro ⟨t,ht,rfl⟩;exact ⟨t,(hMi t).1 (hp.mem_iff.1 ht),rfl⟩
     ·rintro ⟨t,ht,rfl⟩;exact ⟨t,hp.mem_iff.2 ((hMi t).2 ht),rfl⟩
    have hln:n=((valsM M seen).map toT).length:=by rw [List.length_map,hvl,h2]
    have c:=tsort_ok (G:=G) ((valsM M seen).map toT) (fst1 s) (rowF encK .nil l) (by rw [h1];exact RepL_tm _) (fun t ht=>by obtain ⟨u,_,rfl⟩:=List.mem_map.1 ht;exact low_toT u) hfp (find_fst_up s) (by rw [← hln];exact h3) (by rw [← hln,h2];omega)
    have hfl:(fst1 s).length=n:=by rw [hfp.length_eq,← hln]
    rw [← hln] at c
    unfold rowF1
    rw [hfl]
    generalize rowF encK .nil ((fst1 s).map ktOf)=F9 at *
    clear hML hMi hmay hv hover hp hpn hfp hln hvl hfl h1 again
    refine Wp.ent' kR (Ent.pubT (t:=8) (e:=64) (sz:=4) (id:=40) (off:=0) (m:=n) (n:=n) (f:=rowF encK .nil l) (m':=n) (f':=rowF encK .nil l) kR kR oM rfl (fun i _ j _=>by rw [Nat.zero_add]) rfl) ?_
    refine zg [(15,{cs:=[(1,pc c)]})] [false] [false=false] rfl ?_
    exact zr
end Go.Proofs.Tw
end
section
namespace Go.Sv
def rowL (f:Nat→Cell):Nat→Nat→List Cell
 | _,0=>[]
 | j,n+1=>f j::rowL f (j+1) n
def tabL (f:Nat→Nat→Cell) (sz:Nat):Nat→Nat→List Cell
 | _,0=>[]
 | i,n+1=>appC (rowL (f i) 0 sz) (tabL f sz (i+1) n)
where appC:List Cell→List Cell→List Cell
 | [],r=>r
 | x::l,r=>x::appC l r
theorem appC_eq (l r:List Cell):tabL.appC l r=l++r:=by
 induction l with
 | nil=>rfl
 | cons x l ih=>simp [tabL.appC,ih]
theorem rowL_len (f:Nat→Cell):∀ (n j:Nat),(rowL f j n).length=n
 | 0,_=>rfl
 | n+1,j=>by simp [rowL,rowL_len f n]
theorem rowL_get (f:Nat→Cell):∀ (n j k:Nat),k<n→nthD (rowL f j n) k=f (j+k)
 | n+1,j,0,_=>rfl
 | n+1,j,k+1,h=>by
  show nthD (rowL f (j+1) n) k=_
  rw [rowL_get f n (j+1) k oM,show j+1+k=j+(k+1) by omega]
theorem tabL_get (f:Nat→Nat→Cell) (sz:Nat):∀ (n i a j:Nat),a<n→j<sz→nthD (tabL f sz i n) (a*sz+j)=f (i+a) j
 | n+1,i,0,j,_,hj=>by
  rw [Nat.zero_mul,Nat.zero_add,tabL,appC_eq,nthD_app_lt (by rw [rowL_len];exact hj),rowL_get _ _ _ _ hj,Nat.zero_add,Nat.add_zero]
 | n+1,i,a+1,j,ha,hj=>by
  have e:(a+1)*sz+j=sz+(a*sz+j):=by rw [Nat.succ_mul];omega
  rw [tabL,appC_eq,nthD_app_ge (by rw [rowL_len,e];omega),rowL_len,e,Nat.add_sub_cancel_left,tabL_get f sz n (i+1) a j oM hj,show i+1+a=i+(a+1) by omega]
theorem lit_D {sz n n':Nat} {l:List Cell} {f:Nat→Nat→Cell} (h:(tabL f sz 0 n,n)=(l,n')):EqvD (.c (.sl sz n (fun i j=>nthD l (i*sz+j)))) (.c (.sl sz n' f)):=by
 obtain ⟨h1,rfl⟩:=Prod.mk.inj h
 subst h1
 exact EqvD.sl rfl fun i hi j hj=>by rw [tabL_get f sz n 0 i j hi hj,Nat.zero_add]
end Go.Sv
end
section
open Go Go.Sv Go.RowKit
namespace Go.Proofs.Tw
attribute [local irreducible] Wp FinQ resV Ent Pur Go.Sv.Fn Sat0
set_option maxRecDepth 100000
set_option maxHeartbeats 4000000
variable {G:Nat→Option (List Cell)} [Back G]
def atomsT:List (List UInt8):=[[],[97],[98],[97,98],[0],[126],[97,108,105,99,101],[99,49],[126,65,103,65,65,65,65,69,126]]
def numsT:List Nat:=[1,2,3,4,5,0,300,1073741824]
def leafM (l:List Int) (k:Int) (a:Nat):Tm×Nat :=
 if k<2 then (.at_ (atomsT.getD (nextV l a 9).toNat []),nextA l a 9) else (.no (numsT.getD (nextV l a 8).toNat 0),nextA l a 8)
def tmM (l:List Int):Nat→Nat→Tm×Nat
 | 0,a=>leafM l ((nextV l a 10).tmod 5) (nextA l a 10)
 | d+1,a=>if nextV l a 10<5 then leafM l (nextV l a 10) (nextA l a 10)
  else if nextV l a 10<7 then (.one (3+nextV l a 10-5) (tmM l d (nextA l a 10)).1,(tmM l d (nextA l a 10)).2)
  else (.two (5+nextV l a 10-7) (tmM l d (nextA l a 10)).1 (tmM l d (tmM l d (nextA l a 10)).2).1,(tmM l d (tmM l d (nextA l a 10)).2).2)
theorem atoms_D:EqvD (.c (.sl 1 9 (fun i j=>nthD [.str [],.str [97],.str [98],.str [97,98],.str [0],.str [126],.str [97,108,105,99,101],.str [99,49],.str [126,65,103,65,65,65,65,69,126]] (i*1+j)))) (.c (.sl 1 atomsT.length (strsF atomsT))):=lit_D kR
theorem nums_D:EqvD (.c (.sl 1 8 (fun i j=>nthD [.int .i64 1,.int .i64 2,.int .i64 3,.int .i64 4,.int .i64 5,.int .i64 0,.int .i64 300,.int .i64 1073741824] (i*1+j)))) (.c (.sl 1 8 (fun i _ => .int .i64 ((numsT.getD i 0:Nat):Int)))):=lit_D kR
theorem one_D (x:KT):EqvD (.c (.sl 4 1 (fun i j=>nthD (encK x) (i*4+j)))) (.c (.sl 4 1 (rowF encK .nil [x]))):=lit_D kR
theorem two_D (x y:KT):EqvD (.c (.sl 4 2 (fun i j=>nthD (encK x++encK y) (i*4+j)))) (.c (.sl 4 2 (rowF encK .nil [x,y]))):=lit_D kR
theorem leaf_ok (l:List Int) (hl:l.length≤9223372036854775807) (a:Nat) (d:Int) (k:Int) (hd:d≤100) (hk:(if d≤0 then (nextV l a 10).tmod 5 else nextV l a 10)=k) (h5:k<5) :
  FnB Tryz.prog G 80 [tapeB l a] [.c (.ptr 0 0),.c (.int .i64 d)] [.agg (encK (toK (leafM l k (nextA l a 10)).1))] [(0,tapeB l (leafM l k (nextA l a 10)).2)]:=by
 have c1:=next_ok (G:=G) l a 10 oM oM
 have hr:=nextV_rng l a 10 oM
 obtain ⟨a1,ha1⟩:∃ a1,a1=nextA l a 10:=⟨_,rfl⟩
 obtain ⟨k0,hk0⟩:∃ k0,k0=nextV l a 10:=⟨_,rfl⟩
 rw [← ha1] at c1 ⊢
 rw [← hk0] at c1 hk hr
 unfold leafM
 have e1:=atoms_D
 have e2:=nums_D
 have c2:=pick_ok (G:=G) atomsT l a1 oM dC
 have c3:=next_ok (G:=G) l a1 8 oM oM
 have hr8:=nextV_rng l a1 8 oM
 have c4:=at1_ok (G:=G) (atomsT.getD (nextV l a1 9).toNat [])
 have c5:=num1_ok (G:=G) ((numsT.getD (nextV l a1 8).toNat 0:Nat):Int)
 have e3:EqvD (.c (.int .i64 ((numsT.getD (nextV l a1 8).toNat 0:Nat):Int))) (.c (.int .i64 ((numsT.getD (nextV l a1 8).toNat 0:Nat):Int))):=eqvD_of rfl
 have c2:FnB Tryz.prog G 43 [tapeB l a1] [.c (.ptr 0 0),.c (.sl 1 9 (strsF atomsT))] [.c (.str (atomsT.getD (nextV l a1 9).toNat []))] [(0,tapeB l (nextA l a1 9))]:=c2
 have e1:EqvD (.c (.sl 1 9 (fun i j=>nthD [.str [],.str [97],.str [98],.str [97,98],.str [0],.str [126],.str [97,108,105,99,101],.str [99,49],.str [126,65,103,65,65,65,65,69,126]] (i*1+j)))) (.c (.sl 1 9 (strsF atomsT))):=e1
 refine zf Tryz.func80 ?_
 by_cases hd0:d≤0
 ·rw [if_pos hd0] at hk
  subst hk
  have hlt:decide (d≤0)=true:=decide_eq_true hd0
  by_cases h2:k0.tmod 5<2
  ·rw [if_pos h2]
   have h2b:=decide_eq_true h2
   clear c3 c5 e2 hr8
   refine zg [(5,{cs:=[(2,cb [0] c2),(3,pc c4)],fm:=[(1,.c (.sl 1 9 (strsF atomsT)))]}),(1,{cs:=[(1,cb [0] c1)]})] [true,true] [decide (d≤(0:Int))=true,(5:Int)≠(0:Int),decide (k0.tmod (5:Int)<(2:Int))=true,EqvI (.c (.sl 1 (9:Nat) fun i j=>nthD [.str [],.str [(97:UInt8)],.str [(98:UInt8)],.str [(97:UInt8),98],.str [(0:UInt8)],.str [(126:UInt8)],.str [(97:UInt8),108,105,99,101],.str [(99:UInt8),49],.str [(126:UInt8),65,103,65,65,65,65,69,126]] (i*(1:Nat)+j))) (.c (.sl 1 (9:Nat) (strsF atomsT))),EqvD (.c (.sl 1 (9:Nat) fun i j=>nthD [.str [],.str [(97:UInt8)],.str [(98:UInt8)],.str [(97:UInt8),98],.str [(0:UInt8)],.str [(126:UInt8)],.str [(97:UInt8),108,105,99,101],.str [(99:UInt8),49],.str [(126:UInt8),65,103,65,65,65,65,69,126]] (i*(1:Nat)+j))) (.c (.sl 1 (9:Nat) (strsF atomsT)))] ⟨aS,oM,aS,fun _ _=>trivial,(show EqvD (.c (.sl (1:Nat) (9:Nat) fun i j=>nthD [.str [],.str [(97:UInt8)],.str [(98:UInt8)],.str [(97:UInt8),98],.str [(0:UInt8)],.str [(126:UInt8)],.str [(97:UInt8),108,105,99,101],.str [(99:UInt8),49],.str [(126:UInt8),65,103,65,65,65,65,69,126]] (i*(1:Nat)+j))) (.c (.sl (1:Nat) (9:Nat) (strsF atomsT))) from aS)⟩ ?_
   exact zb []
  ·rw [if_neg h2]
   have h2b:=decide_eq_false h2
   have h5b:=decide_eq_true h5
   clear c2 c4 e1
   refine zg [(7,{cs:=[(2,cb [0] c3),(5,pc c5)],fm:=[(0,.c (.sl 1 8 (fun i _ => .int .i64 ((numsT.getD i 0:Nat):Int)))),(4,.c (.int .i64 ((numsT.getD (nextV l a1 8).toNat 0:Nat):Int)))]}),(1,{cs:=[(1,cb [0] c1)]})] [true,false,true] [decide (d≤(0:Int))=true,(5:Int)≠(0:Int),decide (k0.tmod (5:Int)<(2:Int))=false,decide (k0.tmod (5:Int)<(5:Int))=true,EqvI (.c (.sl 1 (8:Nat) fun i j=>nthD [.int .i64 1,.int .i64 2,.int .i64 3,.int .i64 4,.int .i64 5,.int .i64 0,.int .i64 300,.int .i64 1073741824] (i*(1:Nat)+j))) (.c (.sl 1 (8:Nat) fun (i x:Nat) => .int .i64 (↑(numsT.getD i (0:Nat)):Int))),EqvD (.c (.sl 1 (8:Nat) fun i j=>nthD [.int .i64 1,.int .i64 2,.int .i64 3,.int .i64 4,.int .i64 5,.int .i64 0,.int .i64 300,.int .i64 1073741824] (i*(1:Nat)+j))) (.c (.sl 1 (8:Nat) fun (i x:Nat) => .int .i64 (↑(numsT.getD i (0:Nat)):Int))),(0:Int)≤nextV l a1 (8:Int)∧nextV l a1 (8:Int)<(↑(8:Nat):Int),EqvD (.c (.int .i64 (↑(numsT.getD (nextV l a1 (8:Int)).toNat (0:Nat)):Int))) (.c (.int .i64 (↑(numsT.getD (nextV l a1 (8:Int)).toNat (0:Nat)):Int)))] ⟨aS,oM,aS,aS,fun _ _=>trivial,aS,oM,(show EqvD (.c (.int .i64 (↑(numsT.getD (nextV l a1 (8:Int)).toNat (0:Nat)):Int))) (.c (.int .i64 (↑(numsT.getD (nextV l a1 (8:Int)).toNat (0:Nat)):Int))) from aS)⟩ ?_
   exact zb []
 ·rw [if_neg hd0] at hk
  subst hk
  have hlt:decide (d≤0)=false:=decide_eq_false hd0
  by_cases h2:k0<2
  ·rw [if_pos h2]
   have h2b:=decide_eq_true h2
   clear c3 c5 e2 hr8
   refine zg [(5,{cs:=[(2,cb [0] c2),(3,pc c4)],fm:=[(1,.c (.sl 1 9 (strsF atomsT)))]}),(1,{cs:=[(1,cb [0] c1)]})] [false,true] [decide (d≤(0:Int))=false,decide (k0<(2:Int))=true,EqvI (.c (.sl 1 (9:Nat) fun i j=>nthD [.str [],.str [(97:UInt8)],.str [(98:UInt8)],.str [(97:UInt8),98],.str [(0:UInt8)],.str [(126:UInt8)],.str [(97:UInt8),108,105,99,101],.str [(99:UInt8),49],.str [(126:UInt8),65,103,65,65,65,65,69,126]] (i*(1:Nat)+j))) (.c (.sl 1 (9:Nat) (strsF atomsT))),EqvD (.c (.sl 1 (9:Nat) fun i j=>nthD [.str [],.str [(97:UInt8)],.str [(98:UInt8)],.str [(97:UInt8),98],.str [(0:UInt8)],.str [(126:UInt8)],.str [(97:UInt8),108,105,99,101],.str [(99:UInt8),49],.str [(126:UInt8),65,103,65,65,65,65,69,126]] (i*(1:Nat)+j))) (.c (.sl 1 (9:Nat) (strsF atomsT)))] ⟨aS,aS,fun _ _=>trivial,(show EqvD (.c (.sl (1:Nat) (9:Nat) fun i j=>nthD [.str [],.str [(97:UInt8)],.str [(98:UInt8)],.str [(97:UInt8),98],.str [(0:UInt8)],.str [(126:UInt8)],.str [(97:UInt8),108,105,99,101],.str [(99:UInt8),49],.str [(126:UInt8),65,103,65,65,65,65,69,126]] (i*(1:Nat)+j))) (.c (.sl (1:Nat) (9:Nat) (strsF atomsT))) from aS)⟩ ?_
   exact zb []
  ·rw [if_neg h2]
   have h2b:=decide_eq_false h2
   have h5b:=decide_eq_true h5
   clear c2 c4 e1
   refine zg [(7,{cs:=[(2,cb [0] c3),(5,pc c5)],fm:=[(0,.c (.sl 1 8 (fun i _ => .int .i64 ((numsT.getD i 0:Nat):Int)))),(4,.c (.int .i64 ((numsT.getD (nextV l a1 8).toNat 0:Nat):Int)))]}),(1,{cs:=[(1,cb [0] c1)]})] [false,false,true] [decide (d≤(0:Int))=false,decide (k0<(2:Int))=false,decide (k0<(5:Int))=true,EqvI (.c (.sl 1 (8:Nat) fun i j=>nthD [.int .i64 1,.int .i64 2,.int .i64 3,.int .i64 4,.int .i64 5,.int .i64 0,.int .i64 300,.int .i64 1073741824] (i*(1:Nat)+j))) (.c (.sl 1 (8:Nat) fun (i x:Nat) => .int .i64 (↑(numsT.getD i (0:Nat)):Int))),EqvD (.c (.sl 1 (8:Nat) fun i j=>nthD [.int .i64 1,.int .i64 2,.int .i64 3,.int .i64 4,.int .i64 5,.int .i64 0,.int .i64 300,.int .i64 1073741824] (i*(1:Nat)+j))) (.c (.sl 1 (8:Nat) fun (i x:Nat) => .int .i64 (↑(numsT.getD i (0:Nat)):Int))),(0:Int)≤nextV l a1 (8:Int)∧nextV l a1 (8:Int)<(↑(8:Nat):Int),EqvD (.c (.int .i64 (↑(numsT.getD (nextV l a1 (8:Int)).toNat (0:Nat)):Int))) (.c (.int .i64 (↑(numsT.getD (nextV l a1 (8:Int)).toNat (0:Nat)):Int)))] ⟨aS,aS,aS,fun _ _=>trivial,aS,oM,(show EqvD (.c (.int .i64 (↑(numsT.getD (nextV l a1 (8:Int)).toNat (0:Nat)):Int))) (.c (.int .i64 (↑(numsT.getD (nextV l a1 (8:Int)).toNat (0:Nat)):Int))) from aS)⟩ ?_
   exact zb []
theorem tmT_ok (l:List Int) (hl:l.length≤9223372036854775807):∀ (d:Nat),d≤8→∀ a,FnB Tryz.prog G 80 [tapeB l a] [.c (.ptr 0 0),.c (.int .i64 (d:Int))] [.agg (encK (toK (tmM l d a).1))] [(0,tapeB l (tmM l d a).2)]
 | 0,_,a=>by
  have hr:=nextV_rng l a 10 oM
  exact leaf_ok l hl a 0 _ oM (if_pos oM) (by have:=Int.tmod_lt_of_pos (nextV l a 10) (show (0:Int)<5 by omega);omega)
 | d+1,hd,a=>by
  have hr:=nextV_rng l a 10 oM
  rw [tmM]
  by_cases h5:nextV l a 10<5
  ·rw [if_pos h5]
   exact leaf_ok l hl a _ _ oM (if_neg oM) h5
  rw [if_neg h5]
  have c1:=next_ok (G:=G) l a 10 oM oM
  have ih:=tmT_ok l hl d oM
  have hh:((d+1:Nat):Int)-1=(d:Int):=by omega
  have e0:EqvD (.c (.int .i64 (((d+1:Nat):Int)-1))) (.c (.int .i64 (d:Int))):=eqvD_of (by rw [hh])
  have i1:=ih (nextA l a 10)
  generalize nextA l a 10=a1 at *
  generalize nextV l a 10=k at *
  have h2b:decide (k<2)=false:=decide_eq_false oM
  have h5b:=decide_eq_false h5
  have hlt:decide (((d+1:Nat):Int)≤0)=false:=decide_eq_false oM
  by_cases h7:k<7
  ·rw [if_pos h7]
   have h7b:=decide_eq_true h7
   have e1:=one_D (toK (tmM l d a1).1)
   have e2:=tm1_ok (G:=G) (3+k-5) 1 (rowF encK .nil [toK (tmM l d a1).1])
   refine zf Tryz.func80 ?_
   rw [toK]
   generalize toK (tmM l d a1).1=x at *
   generalize (tmM l d a1).2=a2 at *
   refine zg [(9,{cs:=[(6,cb [0] i1),(8,pc e2)],fm:=[(5,.c (.int .i64 (d:Int))),(7,.c (.sl 4 1 (rowF encK .nil [x])))]}),(1,{cs:=[(1,cb [0] c1)]})] [false,false,false,true] [decide ((↑(d+(1:Nat)):Int)≤(0:Int))=false,decide (k<(2:Int))=false,decide (k<(5:Int))=false,decide (k<(7:Int))=true,inR .i64 (3+k),inR .i64 (3+k-5),EqvI (.c (.int .i64 ((↑(d+(1:Nat)):Int)-(1:Int)))) (.c (.int .i64 (d:Int))),EqvD (.c (.int .i64 ((↑(d+(1:Nat)):Int)-(1:Int)))) (.c (.int .i64 (d:Int))),inR .i64 ((↑(d+(1:Nat)):Int)-(1:Int)),EqvI (.c (.sl 4 1 fun i j=>nthD (encK x) (i*4+j))) (.c (.sl 4 1 (rowF encK KT.nil [x]))),EqvD (.c (.sl 4 1 fun i j=>nthD (encK x) (i*4+j))) (.c (.sl 4 1 (rowF encK KT.nil [x])))] ⟨rfl,aS,aS,aS,i6,i6,fun _ _=>trivial,aS,i6,fun _ _=>trivial,(show EqvD (.c (.sl (4:Nat) (1:Nat) fun i j=>nthD [.int .i64 x.k,.int .i64 x.n,.str x.s,.sl (4:Nat) x.m x.f] (i*(4:Nat)+j))) (.c (.sl (4:Nat) (1:Nat) (rowF encK KT.nil [x]))) from aS)⟩ ?_
   exact zb []
  ·rw [if_neg h7]
   have h7b:=decide_eq_false h7
   have i2:=ih (tmM l d a1).2
   have e1:=two_D (toK (tmM l d a1).1) (toK (tmM l d (tmM l d a1).2).1)
   have e2:=tm1_ok (G:=G) (5+k-7) 2 (rowF encK .nil [toK (tmM l d a1).1,toK (tmM l d (tmM l d a1).2).1])
   refine zf Tryz.func80 ?_
   rw [toK]
   generalize toK (tmM l d (tmM l d a1).2).1=y at *
   generalize (tmM l d (tmM l d a1).2).2=a3 at *
   generalize toK (tmM l d a1).1=x at *
   generalize (tmM l d a1).2=a2 at *
   refine zg [(10,{cs:=[(3,cb [0] i1)],fm:=[(2,.c (.int .i64 (d:Int)))]}),(11,{cs:=[(7,cb [0] i2),(9,pc e2)],fm:=[(6,.c (.int .i64 (d:Int))),(8,.c (.sl 4 2 (rowF encK .nil [x,y])))]}),(1,{cs:=[(1,cb [0] c1)]})] [false,false,false,false] [decide ((↑(d+(1:Nat)):Int)≤(0:Int))=false,decide (k<(2:Int))=false,decide (k<(5:Int))=false,decide (k<(7:Int))=false,EqvI (.c (.int .i64 ((↑(d+(1:Nat)):Int)-(1:Int)))) (.c (.int .i64 (d:Int))),EqvD (.c (.int .i64 ((↑(d+(1:Nat)):Int)-(1:Int)))) (.c (.int .i64 (d:Int))),inR .i64 ((↑(d+(1:Nat)):Int)-(1:Int)),inR .i64 (5+k),inR .i64 (5+k-7),EqvI (.c (.int .i64 ((↑(d+(1:Nat)):Int)-(1:Int)))) (.c (.int .i64 (d:Int))),EqvD (.c (.int .i64 ((↑(d+(1:Nat)):Int)-(1:Int)))) (.c (.int .i64 (d:Int))),inR .i64 ((↑(d+(1:Nat)):Int)-(1:Int)),EqvI (.c (.sl 4 2 fun i j=>nthD [.int .i64 x.k,.int .i64 x.n,.str x.s,.sl 4 x.m x.f,.int .i64 y.k,.int .i64 y.n,.str y.s,.sl 4 y.m y.f] (i*4+j))) (.c (.sl 4 2 (rowF encK KT.nil [x,y]))),EqvD (.c (.sl 4 2 fun i j=>nthD [.int .i64 x.k,.int .i64 x.n,.str x.s,.sl 4 x.m x.f,.int .i64 y.k,.int .i64 y.n,.str y.s,.sl 4 y.m y.f] (i*4+j))) (.c (.sl 4 2 (rowF encK KT.nil [x,y])))] ⟨rfl,aS,aS,aS,fun _ _=>trivial,aS,i6,i6,i6,fun _ _=>trivial,aS,i6,fun _ _=>trivial,(show EqvD (.c (.sl (4:Nat) (2:Nat) fun i j=>nthD [.int .i64 x.k,.int .i64 x.n,.str x.s,.sl (4:Nat) x.m x.f,.int .i64 y.k,.int .i64 y.n,.str y.s,.sl (4:Nat) y.m y.f] (i*(4:Nat)+j))) (.c (.sl (4:Nat) (2:Nat) (rowF encK KT.nil [x,y]))) from aS)⟩ ?_
   exact zb []
theorem one1_ok (l:List Int) (hl:l.length≤9223372036854775807):Pur Tryz.prog G 30 [.c (.sl 1 l.length (intsF l))] [.agg (encK (toK (tmM l 4 0).1))]:=by
 refine zp Tryz.func30 ?_
 have c:=tmT_ok (G:=G) l hl 4 oM 0
 generalize toK (tmM l 4 0).1=x at *
 generalize (tmM l 4 0).2=a at *
 refine z0 [(2,{cs:=[(1,cb [48] c)]})] [] ?_
 exact zr
def readK (s:List UInt8):KT:=match readT s with
 | some t=>toK t
 | none => .nil
theorem readC2_ok (s:List UInt8) (hs:s.length≤30000000000000):Pur Tryz.prog G 31 [.c (.str s)] [.agg (encK (readK s)),.c (.bool (readT s).isSome)]:=by
 unfold readK
 rcases readC_ok (G:=G) s hs with ⟨t,ht,c⟩ | ⟨ht,c⟩
 ·rw [ht];exact c
 ·rw [ht];exact pur_r c kids_D (fun S j x h=>by
   match j,h with
   | 0,h=>cases h; trivial
   | 1,h=>cases h; trivial
   | 2,h=>cases h; trivial
   | 3,h=>cases h; trivial
   | _+4,h=>cases h)
theorem read92_ok (s:List UInt8) (hs:s.length≤30000000000000):Pur Tryz.prog G 32 [.c (.str s)] [.agg (encK (readK s)),.c (.bool (readT s).isSome)]:=by
 unfold readK
 rcases read9_ok (G:=G) s hs with ⟨t,ht,c⟩ | ⟨ht,c⟩
 ·rw [ht];exact c
 ·rw [ht];exact pur_r c kids_D (fun S j x h=>by
   match j,h with
   | 0,h=>cases h; trivial
   | 1,h=>cases h; trivial
   | 2,h=>cases h; trivial
   | 3,h=>cases h; trivial
   | _+4,h=>cases h)
theorem toK_k (t:Tm):(toK t).k=(toT t).k∧(toK t).n=(toT t).n:=by cases t<;>rw [toK,toT]<;>exact ⟨rfl,rfl⟩
theorem shape_mark (b:List UInt8):shapeT ([126]++b++[126])=true:=by
 rw [shape_eq _ (by simp)]
 have h1:Lib.hasPrefix ([126]++b++[126]) [126]=true:=by
  rw [pre_tilde _ (by simp)];simp
 have h2:Lib.hasSuffix ([126]++b++[126]) [126]=true:=by
  rw [suf_tilde _ (by simp)];simp
 rw [h1,h2];rfl
theorem core_mark (b:List UInt8):coreT ([126]++b++[126])=b:=by
 unfold coreT
 have e:([126]++b++[126]:List UInt8).length-1=([126]++b:List UInt8).length:=by simp
 rw [e,List.take_left]
 rfl
theorem read_mark {t:TT} (h:mayTT t=true):∃ tm,toT tm=t∧readT (markB t)=some tm:=by
 obtain ⟨tm,e1,e2⟩:=inn_put h
 refine ⟨tm,e1,?_⟩
 unfold readT markB
 rw [if_pos h,shape_mark,if_pos rfl,core_mark]
 exact e2
theorem may7:mayTT (numTT 7)=true:=by kernel_rfl
theorem may_a:mayTT (toT (.at_ [97]))=true:=by kernel_rfl
theorem num7:numR (markB (numTT 7))=[.c (.int .i64 7),.c (.bool true)]:=by
 obtain ⟨tm,e1,e2⟩:=read_mark may7
 unfold numR
 rw [e2]
 have:=toK_k tm
 rw [e1] at this
 have h1:(toK tm).k=2:=this.1
 have h2:(toK tm).n=7:=this.2
 simp only [h1,h2,if_true]
theorem numTil:numR [126,126]=[.c (.int .i64 0),.c (.bool false)]:=by kernel_rfl
def known9:List UInt8:=markB (numTT 1)++[120]++markB (numTT 2)
theorem known9_len:known9.length=19:=by kernel_rfl
theorem find9_len:(fst1 known9).length=2:=by kernel_rfl
theorem mark_len (t:TT):(markB t).length≤140000:=by
 unfold markB
 split
 ·rename_i h
  have:=(may_okP h).2
  have:=enc8_len (putB t)
  simp;omega
 ·simp
theorem known9_ok {m:Int} (hG:G 1=some [.int .i64 m]):Pur Tryz.prog G 26 [] [.c (.bool true)]:=by
 refine zp Tryz.func26 ?_
 have k7:=keyC_ok (G:=G) 7
 have k1:=keyC_ok (G:=G) 1
 have k2:=keyC_ok (G:=G) 2
 have n7:=numC_ok (G:=G) (markB (numTT 7)) (by have:=mark_len (numTT 7);omega)
 rw [num7] at n7
 have nt:=numC_ok (G:=G) [126,126] dC
 rw [numTil] at nt
 have ca:=at1_ok (G:=G) [97]
 have ct:=textT_ok (G:=G) (low_toT (.at_ [97])) (kAt [97]) (Rep_toK (.at_ [97]))
 have cr:=readC2_ok (G:=G) (markB (toT (.at_ [97]))) (by have:=mark_len (toT (.at_ [97]));omega)
 obtain ⟨tm,e1,e2⟩:=read_mark may_a
 have e3:=toT_inj e1
 subst e3
 unfold readK at cr
 rw [e2] at cr
 have cr:Pur Tryz.prog G 31 [.c (.str (markB (toT (.at_ [97]))))] [.agg (encK (kAt [97])),.c (.bool true)]:=cr
 have cs:=same1_ok (G:=G) (kAt [97]) (kAt [97]) (low_toT (.at_ [97])) (low_toT (.at_ [97])) (Rep_toK (.at_ [97])) (Rep_toK (.at_ [97]))
 rw [cmpT_self] at cs
 have cs:Pur Tryz.prog G 35 [.agg (encK (kAt [97])),.agg (encK (kAt [97]))] [.c (.bool true)]:=cs
 have cf:=find_ok (G:=G) hG known9 (by rw [known9_len];omega)
 unfold rowF1 at cf
 rw [find9_len] at cf
 have ek:EqvD (.c (.str (markB (numTT 1)++[120]++markB (numTT 2)))) (.c (.str known9)):=eqvD_of rfl
 clear e1 e2
 generalize rowF encK .nil ((fst1 known9).map ktOf)=F9 at *
 have hl1:=mark_len (numTT 1)
 have hl2:=mark_len (numTT 2)
 generalize known9=kn at *
 generalize markB (numTT 1)=m1 at *
 generalize markB (numTT 2)=m2 at *
 generalize markB (numTT 7)=m7 at *
 generalize markB (toT (.at_ [97]))=ma at *
 refine zg [(4,{cs:=[(14,pc ca),(15,pc cs),(18,pc k1),(20,pc k2),(22,pc cf)],fm:=[(21,.c (.str kn))]}),(1,{cs:=[(0,pc k7),(1,pc n7)]}),(2,{cs:=[(0,pc nt)]}),(3,{cs:=[(0,pc ca),(1,pc ct),(2,pc cr)]})] [] [(bif bif bif bif (7:Int)==(7:Int) then true else false then !false else false then true else false then true else false)=true→m1.length+(1:Nat)≤(9223372036854775807:Nat),EqvI (.c (.str (m1++[(120:UInt8)]++m2))) (.c (.str kn)),(bif bif bif bif (7:Int)==(7:Int) then true else false then !false else false then true else false then true else false)=true→EqvD (.c (.str (m1++[(120:UInt8)]++m2))) (.c (.str kn)),(bif bif bif bif (7:Int)==(7:Int) then true else false then !false else false then true else false then true else false)=true→(m1++[(120:UInt8)]).length+m2.length≤(9223372036854775807:Nat)] ⟨oM,fun _ _=>trivial,(by intro _;assumption),(show (bif bif bif bif (7:Int)==(7:Int) then true else false then !false else false then true else false then true else false)=true→(m1++[(120:UInt8)]).length+m2.length≤(9223372036854775807:Nat) from sO)⟩ ?_
 exact zr
end Go.Proofs.Tw
end
section
open Go Go.Sv Go.RowKit
namespace Go.Proofs.Tw
set_option maxRecDepth 100000
set_option maxHeartbeats 4000000
def szM:Nat→Nat
 | 0=>1
 | d+1=>1+2*szM d
theorem szM_pos (d:Nat):1≤szM d:=by cases d<;>simp [szM]<;>omega
theorem atoms_le (i:Nat):(atomsT.getD i []).length≤9:=by
 rw [List.getD_eq_getElem?_getD]
 cases h:atomsT[i]? with
 | none=>simp
 | some x =>
  have hm:=List.mem_of_getElem? h
  have:∀ x∈atomsT,x.length≤9:=by decide
  exact this x hm
theorem nums_le (i:Nat):numsT.getD i 0≤1073741824:=by
 rw [List.getD_eq_getElem?_getD]
 cases h:numsT[i]? with
 | none=>simp
 | some x =>
  have hm:=List.mem_of_getElem? h
  have:∀ x∈numsT,x≤1073741824:=by decide
  exact this x hm
theorem right_at {s:List UInt8} (h:s.length≤1024):rightK 1 0 s 0=true:=by
 unfold rightK
 cases s with
 | nil=>rfl
 | cons x r =>
  have:decide (((x::r).length:Int)≤1024)=true:=decide_eq_true oM
  rw [this];rfl
theorem right_no {n:Nat} (h:n≤1073741824):rightK 2 (n:Int) [] 0=true:=by
 unfold rightK
 by_cases h0:n=0
 ·subst h0;rfl
 ·have a1:((n:Int)==0)=false:=by simp;omega
  have a2:decide ((n:Int)>0)=true:=by simp;omega
  have a3:decide ((n:Int)≤1073741824)=true:=by simp;omega
  rw [a1,a2,a3];rfl
theorem putB_at (s:List UInt8):(putB (toT (.at_ s))).length=3+s.length:=by
 rw [toT,putB]
 have hb:bodyB 1 0 s=numF (s.length:Int) 2 2++s:=rfl
 rw [hb,putL]
 simp [numF_len];omega
theorem putB_no (n:Nat):(putB (toT (.no n))).length=5:=by
 rw [toT,putB]
 have hb:bodyB 2 (n:Int) []=numF (n:Int) 4 4:=rfl
 rw [hb,putL]
 simp [numF_len]
theorem body_k {k:Int} (h:3≤k):bodyB k 0 []=[]:=by unfold bodyB;rw [if_neg oM,if_neg oM]
theorem leaf_good (l:List Int) (k:Int) (a:Nat):(putB (toT (leafM l k a).1)).length≤12∧∀ (D c:Int),D≤16→c+1≤64→walkM (toT (leafM l k a).1) D c=(true,c+1):=by
 unfold leafM
 split
 ·refine ⟨?_,fun D c h1 h2 => ?_⟩
  ·rw [putB_at];have:=atoms_le (nextV l a 9).toNat;omega
  ·have:=atoms_le (nextV l a 9).toNat
   rw [toT,walk_in h2 h1 (right_at oM),walkL]
 ·refine ⟨?_,fun D c h1 h2 => ?_⟩
  ·rw [putB_no];omega
  ·rw [toT,walk_in h2 h1 (right_no (nums_le _)),walkL]
theorem tmM_good (l:List Int):∀ (d a:Nat),(putB (toT (tmM l d a).1)).length≤12*szM d∧∀ (D c:Int),D+d≤16→c+szM d≤64→∃ c',walkM (toT (tmM l d a).1) D c=(true,c')∧c'≤c+szM d
 | 0,a=>by
  rw [tmM]
  have:=leaf_good l ((nextV l a 10).tmod 5) (nextA l a 10)
  exact ⟨this.1,fun D c h1 h2=>⟨_,this.2 D c oM h2,Int.le_refl _⟩⟩
 | d+1,a=>by
  have hr:=nextV_rng l a 10 oM
  have hz:=szM_pos d
  have hs:szM (d+1)=1+2*szM d:=rfl
  rw [tmM]
  split
  ·have:=leaf_good l (nextV l a 10) (nextA l a 10)
   exact ⟨by omega,fun D c h1 h2=>⟨_,this.2 D c oM oM,by omega⟩⟩
  rename_i h5
  split
  ·rename_i h7
   have ih:=tmM_good l d (nextA l a 10)
   generalize nextV l a 10=k at *
   generalize (tmM l d (nextA l a 10)).1=t at *
   rw [toT]
   refine ⟨?_,fun D c h1 h2 => ?_⟩
   ·rw [putB,body_k oM,putL,putL]
    simp;omega
   ·obtain ⟨c',e1,e2⟩:=ih.2 (D+1) (c+1) oM oM
    have hk:k=5∨k=6:=by omega
    rw [walk_in oM oM (by rcases hk with rfl | rfl<;>rfl),walkL,e1,if_pos rfl,walkL]
    exact ⟨c',rfl,by omega⟩
  ·rename_i h7
   have ih:=tmM_good l d (nextA l a 10)
   have ih2:=tmM_good l d (tmM l d (nextA l a 10)).2
   generalize (tmM l d (tmM l d (nextA l a 10)).2).1=u at *
   generalize nextV l a 10=k at *
   generalize (tmM l d (nextA l a 10)).1=t at *
   rw [toT]
   refine ⟨?_,fun D c h1 h2 => ?_⟩
   ·rw [putB,body_k oM,putL,putL,putL]
    simp;omega
   ·obtain ⟨c1,e1,e2⟩:=ih.2 (D+1) (c+1) oM oM
    obtain ⟨c2,f1,f2⟩:=ih2.2 (D+1) c1 oM oM
    have hk:k=7∨k=8∨k=9:=by omega
    rw [walk_in oM oM (by rcases hk with rfl | rfl | rfl<;>rfl),walkL,e1,if_pos rfl,walkL]
    simp only []
    rw [f1,if_pos rfl,walkL]
    exact ⟨c2,rfl,by omega⟩
theorem tmM_may (l:List Int) (d a:Nat) (h:d≤4):mayTT (toT (tmM l d a).1)=true:=by
 have hs:szM d≤31:=by
  match d,h with
  | 0,_=>decide
  | 1,_=>decide
  | 2,_=>decide
  | 3,_=>decide
  | 4,_=>decide
 obtain ⟨c,e,_⟩:=(tmM_good l d a).2 1 0 oM oM
 unfold mayTT
 rw [e]
end Go.Proofs.Tw
end
section
open Go Go.Sv Go.RowKit
namespace Go.Proofs.Tw
attribute [local irreducible] Wp FinQ resV Ent Pur Go.Sv.Fn Sat0
set_option maxRecDepth 100000
set_option maxHeartbeats 4000000
variable {G:Nat→Option (List Cell)} [Back G]
def sevenT:List (List UInt8):=[[46],[97],[61],[38],[32],[65],[34]]
def markN (l:List Int) (d a:Nat):List UInt8:=markB (toT (tmM l d a).1)
def nonceT (x:List UInt8):List UInt8:=[123,34,110,111,110,99,101,34,58,34]++x++[34,125]
def pieceT (l:List Int) (k:Int) (a:Nat) (x:List UInt8):Nat×List UInt8 :=
 if k=0 then (a,[126]) else if k=1 then (nextA l a 7,sevenT.getD (nextV l a 7).toNat []) else if k=2 then (a,x.drop 1) else if k=3 then (a,enc8 (nonceT x)) else (a,x)
def roundT (l:List Int) (a:Nat) (s:List UInt8):Nat×List UInt8 :=
 ((pieceT l (nextV l (tmM l 2 a).2 8) (nextA l (tmM l 2 a).2 8) (markN l 2 a)).1,s++(pieceT l (nextV l (tmM l 2 a).2 8) (nextA l (tmM l 2 a).2 8) (markN l 2 a)).2)
def textsI (l:List Int):Nat→Nat×List UInt8
 | 0=>(0,[])
 | i+1=>if (textsI l i).1<l.length then roundT l (textsI l i).1 (textsI l i).2 else textsI l i
def textsT (l:List Int) (most:Nat):List UInt8:=(textsI l most).2
theorem markN_len (l:List Int) (d a:Nat):(markN l d a).length≤24*szM d+6:=by
 unfold markN markB
 split
 ·have:=(tmM_good l d a).1
  have:=enc8_len (putB (toT (tmM l d a).1))
  simp;omega
 ·simp
theorem markN_pos (l:List Int) (d a:Nat) (h:d≤4):1≤(markN l d a).length:=by
 unfold markN markB
 rw [if_pos (tmM_may l d a h)]
 simp
theorem seven_le (i:Nat):(sevenT.getD i []).length≤1:=by
 rw [List.getD_eq_getElem?_getD]
 cases h:sevenT[i]? with
 | none=>simp
 | some x =>
  have hm:=List.mem_of_getElem? h
  have:∀ x∈sevenT,x.length≤1:=by decide
  exact this x hm
theorem piece_len (l:List Int) (k:Int) (a:Nat) (x:List UInt8) (h:x.length≤174):(pieceT l k a x).2.length≤400:=by
 unfold pieceT
 split
 ·simp
 split
 ·have:=seven_le (nextV l a 7).toNat;show (sevenT.getD _ _).length≤400;omega
 split
 ·show (x.drop 1).length≤400;rw [List.length_drop];omega
 split
 ·have:=enc8_len (nonceT x)
  have h2:(nonceT x).length=12+x.length:=by unfold nonceT;simp;omega
  show (enc8 (nonceT x)).length≤400;omega
 ·show x.length≤400;omega
theorem texts_len (l:List Int):∀ i,(textsI l i).2.length≤400*i
 | 0=>Nat.le_refl _
 | i+1=>by
  have:=texts_len l i
  rw [textsI];split
  ·have h:=piece_len l (nextV l (tmM l 2 (textsI l i).1).2 8) (nextA l (tmM l 2 (textsI l i).1).2 8) (markN l 2 (textsI l i).1) (by have:=markN_len l 2 (textsI l i).1;have:szM 2=7:=rfl;omega)
   show ((textsI l i).2++_).length≤_
   rw [List.length_append];omega
  ·omega
theorem texts_stay (l:List Int) (i:Nat) (h:¬ (textsI l i).1<l.length):∀ j,i≤j→textsI l j=textsI l i
 | j,hj=>by
  induction j with
  | zero=>rw [show i=0 by omega]
  | succ j ih =>
   rcases Nat.lt_or_ge j i with h1 | h1
   ·rw [show j+1=i by omega]
   ·rw [textsI,ih h1,if_neg h]
theorem texts_ok (l:List Int) (hl:l.length≤9223372036854775807) (most:Nat) (hm:most≤100):Pur Tryz.prog G 28 [.c (.sl 1 l.length (intsF l)),.c (.int .i64 (most:Int))] [.c (.str (textsT l most))]:=by
 refine zp Tryz.func28 ?_
 refine z0 [] [] ?_
 refine zl (fun (x:Nat×Nat×List UInt8)=>⟨[(1,.v (.c (.int .i64 (most:Int)))),(5,.v (.c (.ptr 48 0))),(6,.v (.c (.str x.2.2))),(7,.v (.c (.int .i64 (x.1:Int))))],[(48,tapeB l x.2.1)],112⟩) (fun x=>x.1≤most∧x.2=textsI l x.1) (fun x=>most-x.1) (0,0,[]) ⟨Nat.zero_le _,rfl⟩ ?_
 rintro ⟨i,a,s⟩ W ⟨hi,hx⟩ again
 have hi:i≤most:=hi
 have hx:(a,s)=textsI l i:=hx
 have hsn:=texts_len l i
 rw [← hx] at hsn
 have hsn:s.length≤400*i:=hsn
 have cm:=more1_ok (G:=G) l a
 by_cases him:i<most
 ·have hib:decide ((i:Int)<(most:Int))=true:=by simp;omega
  by_cases ha:a<l.length
  ·have hab:decide (a<l.length)=true:=decide_eq_true ha
   rw [hab] at cm
   have ct:=tmT_ok (G:=G) l hl 2 oM a
   have ce:=text9_ok (G:=G) (low_toT (tmM l 2 a).1) (toK (tmM l 2 a).1) (Rep_toK (tmM l 2 a).1)
   have ce:Pur Tryz.prog G 29 [.agg (encK (toK (tmM l 2 a).1))] [.c (.str (markN l 2 a))]:=ce
   have cn:=next_ok (G:=G) l (tmM l 2 a).2 8 oM oM
   have hq:i+1≤most∧roundT l a s=textsI l (i+1):=⟨him,by rw [textsI,← hx];show _=if a<l.length then _ else _;rw [if_pos ha]⟩
   have hxl:=markN_len l 2 a
   have hxp:=markN_pos l 2 a oM
   have hz:szM 2=7:=rfl
   unfold roundT at hq
   have hr:=nextV_rng l (tmM l 2 a).2 8 oM
   clear hx
   generalize nextV l (tmM l 2 a).2 8=k at *
   generalize nextA l (tmM l 2 a).2 8=a2 at *
   generalize markN l 2 a=x at *
   generalize toK (tmM l 2 a).1=y at *
   generalize (tmM l 2 a).2=a1 at *
   have hpl:=piece_len l k a2 x oM
   unfold pieceT at hq hpl
   by_cases k0:k=0
   ·subst k0
    rw [if_pos rfl] at hq hpl
    refine zg [(4,{grd:=[(4,true),(5,true)],cs:=[(5,cb [48] cm)]}),(6,{cs:=[(1,cb [48] ct),(2,pc ce)]}),(7,{cs:=[(1,cb [48] cn)]})] [true,true] [decide ((i:Int)<(most:Int))=true,decide ((i:Int)<(most:Int))=true,(bif decide ((i:Int)<(most:Int)) then true else false)=true,((0:Int)==(0:Int))=true,s.length+1≤9223372036854775807,inR .i64 ((i:Int)+1)] ⟨aS,aS,sO,rfl,oM,i6⟩ ?_
    exact za [] (again _ (i+1,a2,s++[126]) oM oM)
   rw [if_neg k0] at hq hpl
   have q0:(k==0)=false:=by simp [k0]
   by_cases k1:k=1
   ·subst k1
    rw [if_pos rfl] at hq hpl
    have cp:=pick_ok (G:=G) sevenT l a2 oM dC
    have cp:FnB Tryz.prog G 43 [tapeB l a2] [.c (.ptr 0 0),.c (.sl 1 7 (strsF sevenT))] [.c (.str (sevenT.getD (nextV l a2 7).toNat []))] [(0,tapeB l (nextA l a2 7))]:=cp
    have e7:EqvD (.c (.sl 1 7 (fun i j=>nthD [.str [46],.str [97],.str [61],.str [38],.str [32],.str [65],.str [34]] (i*1+j)))) (.c (.sl 1 7 (strsF sevenT))):=lit_D kR
    generalize sevenT.getD (nextV l a2 7).toNat []=z at *
    generalize nextA l a2 7=a3 at *
    refine zg [(12,{cs:=[(3,cb [48] cp)],fm:=[(2,.c (.sl 1 7 (strsF sevenT)))]}),(4,{grd:=[(4,true),(5,true)],cs:=[(5,cb [48] cm)]}),(6,{cs:=[(1,cb [48] ct),(2,pc ce)]}),(7,{cs:=[(1,cb [48] cn)]})] [true,false,true] [decide ((i:Int)<(most:Int))=true,decide ((i:Int)<(most:Int))=true,(bif decide ((i:Int)<(most:Int)) then true else false)=true,((1:Int)==(0:Int))=false,((1:Int)==(1:Int))=true,EqvI (.c (.sl 1 (7:Nat) fun i j=>nthD [.str [(46:UInt8)],.str [(97:UInt8)],.str [(61:UInt8)],.str [(38:UInt8)],.str [(32:UInt8)],.str [(65:UInt8)],.str [(34:UInt8)]] (i*(1:Nat)+j))) (.c (.sl 1 (7:Nat) (strsF sevenT))),EqvD (.c (.sl 1 (7:Nat) fun i j=>nthD [.str [(46:UInt8)],.str [(97:UInt8)],.str [(61:UInt8)],.str [(38:UInt8)],.str [(32:UInt8)],.str [(65:UInt8)],.str [(34:UInt8)]] (i*(1:Nat)+j))) (.c (.sl 1 (7:Nat) (strsF sevenT))),s.length+z.length≤9223372036854775807,inR .i64 ((i:Int)+1)] ⟨aS,aS,sO,rfl,rfl,fun _ _=>trivial,aS,(by simp_all<;>omega),i6⟩ ?_
    exact za [] (again _ (i+1,a3,s++z) oM oM)
   rw [if_neg k1] at hq hpl
   have q1:(k==1)=false:=by simp [k1]
   by_cases k2:k=2
   ·subst k2
    rw [if_pos rfl] at hq hpl
    have ed:EqvD (.c (.str (List.drop 1 (List.take x.length x)))) (.c (.str (x.drop 1))):=eqvD_of (by rw [List.take_length])
    generalize x.drop 1=x1 at *
    refine zg [(14,{fm:=[(2,.c (.str x1))]}),(4,{grd:=[(4,true),(5,true)],cs:=[(5,cb [48] cm)]}),(6,{cs:=[(1,cb [48] ct),(2,pc ce)]}),(7,{cs:=[(1,cb [48] cn)]})] [true,false,false,true] [decide ((i:Int)<(most:Int))=true,decide ((i:Int)<(most:Int))=true,(bif decide ((i:Int)<(most:Int)) then true else false)=true,((2:Int)==(0:Int))=false,((2:Int)==(1:Int))=false,((2:Int)==(2:Int))=true,EqvI (.c (.str (List.drop (1:Nat) (List.take (Int.ofNat x.length).toNat x)))) (.c (.str x1)),EqvD (.c (.str (List.drop (1:Nat) (List.take (Int.ofNat x.length).toNat x)))) (.c (.str x1)),(0:Int)≤Int.ofNat (1)∧Int.ofNat (1)≤Int.ofNat x.length∧Int.ofNat x.length≤(x.length:Int),s.length+x1.length≤9223372036854775807,inR .i64 ((i:Int)+1)] ⟨aS,aS,sO,rfl,rfl,rfl,fun _ _=>trivial,aS,⟨dC,⟨sO,(by simp;done)⟩⟩,(by simp_all<;>omega),i6⟩ ?_
    exact za [] (again _ (i+1,a2,s++x1) oM oM)
   rw [if_neg k2] at hq hpl
   have q2:(k==2)=false:=by simp [k2]
   by_cases k3:k=3
   ·subst k3
    rw [if_pos rfl] at hq hpl
    have h2:(nonceT x).length=12+x.length:=by unfold nonceT;simp;omega
    have c8:=enc8_ok (G:=G) (nonceT x) oM
    have en:EqvD (.c (.str ([123,34,110,111,110,99,101,34,58,34]++x++[34,125]))) (.c (.str (nonceT x))):=eqvD_of rfl
    generalize enc8 (nonceT x)=o at *
    generalize nonceT x=nx at *
    refine zg [(16,{cs:=[(5,lc [512] [.row 5 (1:Nat) nx.length fun (i x:Nat) => .int .u8 (↑(nx.getD i (0:UInt8)).toNat:Int)] [.c (.row 1 (0:Nat) (0:Nat) nx.length)] c8 kR kR kR (show (0:Nat)+nx.length≤nx.length from oM))],fm:=[(3,.c (.str nx))]}),(4,{grd:=[(4,true),(5,true)],cs:=[(5,cb [48] cm)]}),(6,{cs:=[(1,cb [48] ct),(2,pc ce)]}),(7,{cs:=[(1,cb [48] cn)]})] [true,false,false,false,true] [decide ((i:Int)<(most:Int))=true,decide ((i:Int)<(most:Int))=true,(bif decide ((i:Int)<(most:Int)) then true else false)=true,((3:Int)==(0:Int))=false,((3:Int)==(1:Int))=false,((3:Int)==(2:Int))=false,((3:Int)==(3:Int))=true,10+x.length≤9223372036854775807,EqvI (.c (.str ([(123:UInt8),34,110,111,110,99,101,34,58,34]++x++[(34:UInt8),125]))) (.c (.str nx)),EqvD (.c (.str ([(123:UInt8),34,110,111,110,99,101,34,58,34]++x++[(34:UInt8),125]))) (.c (.str nx)),([(123:UInt8),34,110,111,110,99,101,34,58,34]++x).length+(2:Nat)≤(9223372036854775807:Nat),nx.length≤140737488355328,s.length+o.length≤9223372036854775807,inR .i64 ((i:Int)+1)] ⟨aS,aS,sO,rfl,rfl,rfl,rfl,oM,fun _ _=>trivial,aS,sO,oM,(by simp_all<;>omega),i6⟩ ?_
    exact za [] (again _ (i+1,a2,s++o) oM oM)
   rw [if_neg k3] at hq hpl
   have q3:(k==3)=false:=by simp [k3]
   refine zg [(4,{grd:=[(4,true),(5,true)],cs:=[(5,cb [48] cm)]}),(6,{cs:=[(1,cb [48] ct),(2,pc ce)]}),(7,{cs:=[(1,cb [48] cn)]})] [true,false,false,false,false] [decide ((i:Int)<(most:Int))=true,decide ((i:Int)<(most:Int))=true,(bif decide ((i:Int)<(most:Int)) then true else false)=true,(k==(0:Int))=false,(k==(1:Int))=false,(k==(2:Int))=false,(k==(3:Int))=false,s.length+x.length≤9223372036854775807,inR .i64 ((i:Int)+1)] ⟨aS,aS,sO,aS,aS,aS,aS,oM,i6⟩ ?_
   exact za [] (again _ (i+1,a2,s++x) oM oM)
  ·have hab:decide (a<l.length)=false:=decide_eq_false ha
   rw [hab] at cm
   have hst:=texts_stay l i (by rw [← hx];exact ha) most oM
   have hE:textsT l most=s:=by unfold textsT;rw [hst,← hx]
   rw [hE]
   clear hst hE hx again
   refine zg [(4,{grd:=[(4,true),(5,true)],cs:=[(5,cb [48] cm)]})] [false] [decide ((i:Int)<(most:Int))=true,decide ((i:Int)<(most:Int))=true,(bif decide ((i:Int)<(most:Int)) then false else false)=false] ⟨aS,aS,(show (bif decide ((↑i:Int)<(↑most:Int)) then false else false)=false from (by simp;done))⟩ ?_
   exact zr
 ·have hib:decide ((i:Int)<(most:Int))=false:=by simp;omega
  have hE:textsT l most=s:=by unfold textsT;rw [show most=i by omega,← hx]
  rw [hE]
  clear hE hx again
  refine zg [(4,{grd:=[(4,false),(5,false),(6,false)]})] [false] [decide ((i:Int)<(most:Int)) = !true,decide ((i:Int)<(most:Int)) = !true,decide ((i:Int)<(most:Int))=false,false=false] ⟨aS,aS,aS,rfl⟩ ?_
  exact zr
end Go.Proofs.Tw
end
section
open Go Go.Sv Go.RowKit
namespace Go.Proofs.Tw
attribute [local irreducible] Wp FinQ resV Ent Pur Go.Sv.Fn Sat0
set_option maxRecDepth 100000
set_option maxHeartbeats 4000000
def Gn (m:Int):Nat→Option (List Cell)
 | 1=>some [.int .i64 m]
 | _=>none
instance back_Gn (m:Int):Back (Gn m):=⟨fun h=>by cases h⟩
variable {G:Nat→Option (List Cell)} [Back G]
def fstP (s:List UInt8):List TP:=(fst1 s).map kp
theorem fstP_row (s:List UInt8):rowP (fstP s)=rowF1 s:=by
 unfold rowP rowF1 fstP
 rw [kp_snd,List.length_map]
theorem fst1_low (s:List UInt8):∀ t∈fst1 s,LowR t:=fun t h=>by
 obtain ⟨x,hx,rfl⟩:=List.mem_map.1 h
 obtain ⟨u,_,rfl⟩:=findP_mem hx
 exact low_toT u
theorem fst1_len (s:List UInt8):(fst1 s).length≤3*s.length+1:=by
 unfold fst1
 rw [List.length_map]
 have:=foldP_len (allM s) []
 have h2:=all_len s
 show (foldP [] (allM s)).length≤_
 simp at this;omega
theorem findP_all (s:List UInt8):AllP (findP s):=foldP_all _ _ (fun p h=>by cases h)
theorem allFind_ok (s:List UInt8) (hs:s.length≤200000):Pur Tryz.prog G 38 [.c (rowF1 s),.c (rowP (findP s))] [.c (.bool true)]:=by
 have:=all1_ok (G:=G) (fstP s) (findP s) (kp_ok (fst1_low s)) (findP_all s) (by unfold fstP fst1;rw [List.map_map];exact List.map_id _) (by unfold fstP;rw [List.length_map];have:=fst1_len s;omega)
 rw [fstP_row] at this
 exact this
theorem markFind_ok {m:Int} (l:List Int) (raw:List UInt8) (hl:l.length≤9223372036854775807):Pur Tryz.prog (Gn m) 5 [.c (.sl 1 l.length (intsF l)),.c (.str raw)] [.c (.bool true)]:=by
 have hG:Gn m 1=some [.int .i64 m]:=rfl
 refine zp Tryz.func5 ?_
 have ck:=known9_ok hG
 by_cases hr:raw.length>300
 ·have hrb:decide ((raw.length:Int)>300)=true:=by simp;omega
  refine zg [(1,{cs:=[(0,pc ck)]})] [false,true] [(!true)=false,decide ((raw.length:Int)>300)=true] ⟨rfl,(show decide ((↑raw.length:Int)>(300:Int))=true from aS)⟩ ?_
  exact zr
 have hrb:decide ((raw.length:Int)>300)=false:=by simp;omega
 have c1:=texts_ok (G:=Gn m) l hl 12 oM
 have c2:=texts_ok (G:=Gn m) l hl 5 oM
 have c3:=texts_ok (G:=Gn m) l hl 3 oM
 have n1:(textsT l 12).length≤4800:=texts_len l 12
 have n2:(textsT l 5).length≤2000:=texts_len l 5
 have n3:(textsT l 3).length≤1200:=texts_len l 3
 generalize textsT l 12=s1 at *
 generalize textsT l 5=s2 at *
 generalize textsT l 3=s3 at *
 obtain ⟨S,hS⟩:∃ S,S=[s1,raw,s2++raw++s3]:=⟨_,rfl⟩
 have el:EqvD (.c (.sl 1 3 (fun i j=>nthD [.str s1,.str raw,.str (s2++raw++s3)] (i*1+j)))) (.c (.sl 1 3 (strsF S))):=by rw [hS];exact lit_D kR
 have hn:∀ k,(S.getD k []).length≤200000:=fun k=>by
  rw [List.getD_eq_getElem?_getD]
  cases h:S[k]? with
  | none=>simp
  | some x =>
   have hm:=List.mem_of_getElem? h
   rw [hS] at hm
   simp at hm
   rcases hm with rfl | rfl | rfl
   ·show x.length≤_;omega
   ·show x.length≤_;omega
   ·show (s2++(raw++s3)).length≤_;simp;omega
 clear hS
 refine zg [(5,{cs:=[(1,pc c1),(4,pc c2),(8,pc c3)],fm:=[(10,.c (.sl 1 3 (strsF S)))]}),(1,{cs:=[(0,pc ck)]})] [false,false] [(!true)=false,decide ((raw.length:Int)>300)=false,s2.length+raw.length≤9223372036854775807,(s2++raw).length+s3.length≤9223372036854775807,EqvI (.c (.sl 1 3 fun i j=>nthD [.str s1,.str raw,.str (s2++raw++s3)] (i*1+j))) (.c (.sl 1 3 (strsF S))),EqvD (.c (.sl 1 3 fun i j=>nthD [.str s1,.str raw,.str (s2++raw++s3)] (i*1+j))) (.c (.sl 1 3 (strsF S)))] ⟨rfl,aS,oM,sO,fun _ _=>trivial,(show EqvD (.c (.sl (1:Nat) (3:Nat) fun i j=>nthD [.str s1,.str raw,.str (s2++raw++s3)] (i*(1:Nat)+j))) (.c (.sl (1:Nat) (3:Nat) (strsF S))) from aS)⟩ ?_
 refine zl (fun (k:Nat)=>⟨[(5,.v (.c (.sl 1 3 (strsF S)))),(6,.v (.c (.int .i64 (k:Int))))],[],304⟩) (fun k=>k≤3) (fun k=>3-k) 0 (Nat.zero_le _) ?_
 rintro k W hk again
 have hk:k≤3:=hk
 by_cases hi:k<3
 ·have hib:decide ((k:Int)<3)=true:=by simp;omega
  have f1:=find_ok (G:=Gn m) hG (S.getD k []) (hn k)
  have f2:=find9_ok (G:=Gn m) (S.getD k []) (hn k)
  have f3:=allFind_ok (G:=Gn m) (S.getD k []) (hn k)
  have es:EqvD (.c (.str (S.getD k []))) (.c (.str (S.getD k []))):=eqvD_of rfl
  unfold rowF1 at f1 f3
  unfold rowP at f2 f3
  generalize rowF encK .nil ((fst1 (S.getD k [])).map ktOf)=F1 at *
  generalize rowF encK .nil ((findP (S.getD k [])).map Prod.snd)=F2 at *
  generalize (fst1 (S.getD k [])).length=n1 at *
  generalize (findP (S.getD k [])).length=n2 at *
  refine zg [(9,{cs:=[(4,pc f1),(9,pc f2),(10,pc f3)]})] [true,false] [decide ((k:Int)<3)=true,(0:Int)≤(k:Int)∧(k:Int)<(↑(3:Nat):Int),(0:Int)≤(k:Int)∧(k:Int)<(↑(3:Nat):Int),(!true)=false,inR .i64 ((k:Int)+1)] ⟨aS,oM,oM,rfl,i6⟩ ?_
  exact za [] (again _ (k+1) aS oM)
 ·have hib:decide ((k:Int)<3)=false:=by simp;omega
  clear again
  refine zg [] [false] [decide ((k:Int)<3)=false] (oN aS) ?_
  exact zr
end Go.Proofs.Tw
end
section
namespace Go.Sv
theorem mapM_keep {α β:Type} {f g:α→Option β}:∀ {l:List α} {ys:List β},l.mapM f=some ys→(∀ x∈l,∀ y,f x=some y→y∈ys→g x=some y)→l.mapM g=some ys
 | [],ys,h,_=>by simpa using h
 | x::l,ys,h,hg=>by
  rw [List.mapM_cons] at h ⊢
  cases hx:f x with
  | none=>rw [hx] at h; cases h
  | some y =>
   rw [hx] at h
   cases hl:l.mapM f with
   | none=>rw [hl] at h; cases h
   | some zs =>
    rw [hl] at h
    obtain rfl:y::zs=ys:=by simpa using h
    rw [hg x (by simp) y hx (by simp),mapM_keep hl (fun u hu v hv hm=>hg u (by simp [hu]) v hv (by simp [hm]))]
    rfl
theorem cell_keep {W W':World} (hk:∀ b,b<W.heap.size→W'.heap[b]?=W.heap[b]?) {a:Addr} {v:Value} (h:W.cell? a=some v):W'.cell? a=some v:=by
 have hb:a.block<W.heap.size:=by
  rcases Nat.lt_or_ge a.block W.heap.size with hlt | hge
  ·exact hlt
  ·simp [World.cell?,Array.getElem?_eq_none hge] at h
 simp only [World.cell?,hk _ hb] at h ⊢
 exact h
theorem cells_keep {W W':World} (hk:∀ b,b<W.heap.size→W'.heap[b]?=W.heap[b]?) {base:Nat} {a:Addr} {n:Nat} {l:List Value} (h:W.cells? base a n=some l):W'.cells? base a n=some l:=by
 unfold World.cells? at h ⊢
 split at h
 ·rename_i hb
  rw [if_pos hb]
  exact mapM_keep h (fun x _ y hy _=>cell_keep hk hy)
 ·cases h
def stepT (P:Program) (S:TypeId→Bool) (t:TypeId):Bool:=match P.underlying t with
 | some (.slice e) => !(Nat.beq (P.cellsOf e) 0)&&S e
 | some (.pointer e)=>S e
 | some (.struct fs)=>fs.toList.all fun f=>S f.type
 | some (.array _ e)=>S e
 | some (.map _ e)=>S e
 | _=>true
def inL (l:List TypeId) (t:TypeId):Bool:=l.any fun u=>Nat.beq u t
def closedT (P:Program) (l:List TypeId):Bool:=l.all (stepT P (inL l))
theorem closed_step {P:Program} {l:List TypeId} (h:closedT P l=true) {t:TypeId} (ht:inL l t=true):stepT P (inL l) t=true:=by
 obtain ⟨u,hu,e⟩:=List.any_eq_true.1 ht
 obtain rfl:u=t:=Nat.eq_of_beq_eq_true e
 exact List.all_eq_true.1 h u hu
theorem trod_keep {H:Type} {enc:TypeId×Value→H} {P:Program} {W W':World} {base:Nat} {sp sp':Nat→Bool} {l:List TypeId} (hk:∀ b,b<W.heap.size→W'.heap[b]?=W.heap[b]?)
  (hz:closedT P l=true) (hsp:∀ b,sp b=true):∀ (fuel:Nat) (t:TypeId) (cs:List Value) (d:DataW H) (p:List MemPlace),inL l t=true→DataW.trod enc P W base sp true fuel t cs=some (d,p) →
   (∀ q∈p,sp' q.block=true)→DataW.trod enc P W' base sp' true fuel t cs=some (d,p):=by
 intro fuel
 induction fuel with
 | zero=>intro t cs d p _ h; simp [DataW.trod] at h
 | succ fuel ih =>
  intro t cs d p hin h hs
  have hst:=closed_step hz hin
  unfold stepT at hst
  unfold DataW.trod at h ⊢
  generalize hu:P.underlying t=u at h hst ⊢
  split at h
  case h_6 e a =>
   simp only at hst
   rw [Option.map_eq_some_iff] at h
   obtain ⟨x,hx,he⟩:=h
   rw [Option.bind_eq_some_iff] at hx
   obtain ⟨vl,hl,hx⟩:=hx
   simp only [Prod.mk.injEq] at he
   obtain ⟨rfl,rfl⟩:=he
   simp only [cells_keep hk hl,Option.bind_some]
   rw [ih e vl x.1 x.2 hst hx (fun q hq=>hs q (by simp [hq]))]
   rfl
  case h_8 e a len cap =>
   simp only [Bool.and_eq_true,Bool.not_eq_true'] at hst
   have hz:P.cellsOf e≠0:=fun h0=>by rw [h0] at hst;exact absurd hst.1 dC
   simp only at h ⊢
   split at h
   ·rename_i hc
    rw [if_pos hc]
    rw [Option.bind_eq_some_iff] at h
    obtain ⟨elems,hel,h⟩:=h
    rw [Option.map_eq_some_iff] at h
    obtain ⟨rest,hre,he⟩:=h
    simp only [Prod.mk.injEq] at he
    obtain ⟨rfl,rfl⟩:=he
    have elemAt:∀ (i:Nat) (y:DataW H×List MemPlace),(W.cells? base (a.add (i*P.cellsOf e)) (P.cellsOf e)).bind (DataW.trod enc P W base sp true fuel e)=some y→y∈elems++rest →
      (W'.cells? base (a.add (i*P.cellsOf e)) (P.cellsOf e)).bind (DataW.trod enc P W' base sp' true fuel e)=some y:=by
     intro i y hy hm
     rw [Option.bind_eq_some_iff] at hy ⊢
     obtain ⟨vl,hl,hy⟩:=hy
     exact ⟨vl,cells_keep hk hl,ih e vl y.1 y.2 hst.2 hy (fun q hq=>hs q (List.mem_append_right _ (List.mem_flatMap.2 ⟨y,hm,hq⟩)))⟩
    rw [mapM_keep hel (fun x _ y hy hm=>elemAt x y hy (List.mem_append_left _ hm))]
    simp only [Option.bind_some]
    have hrest:(if sp' a.block=true then (List.range (cap-len)).mapM fun j=>(W'.cells? base (a.add ((len+j)*P.cellsOf e)) (P.cellsOf e)).bind (DataW.trod enc P W' base sp' true fuel e) else some [])=some rest:=by
     by_cases h0:elems.length+rest.length=0
     ·have hr:rest=[]:=List.eq_nil_of_length_eq_zero oM
      have hle:elems=[]:=List.eq_nil_of_length_eq_zero oM
      have none0:∀ {f:Nat→Option (DataW H×List MemPlace)} {n:Nat} {ys:List (DataW H×List MemPlace)},(List.range n).mapM f=some ys→ys=[]→n=0:=by
       intro f n ys h hy
       subst hy
       cases n with
       | zero=>rfl
       | succ n =>
        rw [List.range_succ_eq_map,List.mapM_cons] at h
        exfalso
        revert h
        cases f 0 with
        | none=>intro h; cases h
        | some y =>
         intro h
         simp only [Option.bind_eq_bind,Option.bind_some] at h
         rw [Option.bind_eq_some_iff] at h
         obtain ⟨_,_,h⟩:=h
         simp at h
      have hlen:=none0 hel hle
      rw [if_pos (hsp _)] at hre
      have hc0:=none0 hre hr
      rw [hc0,hr]
      simp
     ·have hb:sp' a.block=true:=by
       have hm:(MemPlace.cell a.block (a.off+0))∈MemPlace.row a ((elems.length+rest.length)*P.cellsOf e):=by
        unfold MemPlace.row
        refine List.mem_map.2 ⟨0,List.mem_range.2 ?_,rfl⟩
        exact Nat.mul_pos oM oM
       exact hs _ (List.mem_append_left _ hm)
      rw [if_pos hb]
      rw [if_pos (hsp _)] at hre
      exact mapM_keep hre (fun x _ y hy hm=>elemAt (len+x) y hy (List.mem_append_right _ hm))
    rw [hrest]
    rfl
   ·cases h
  case h_9 fs =>
   split at h
   ·rename_i hc
    rw [if_pos hc]
    rw [Option.map_eq_some_iff] at h
    obtain ⟨xs,hx,he⟩:=h
    simp only [Prod.mk.injEq] at he
    obtain ⟨rfl,rfl⟩:=he
    rw [mapM_keep hx (fun f hf y hy hm=>ih _ _ y.1 y.2 (List.all_eq_true.1 hst f hf) hy (fun q hq=>hs q (List.mem_flatMap.2 ⟨y,hm,hq⟩)))]
    rfl
   ·cases h
  case h_10 n e =>
   split at h
   ·rename_i hc
    rw [if_pos hc]
    rw [Option.map_eq_some_iff] at h
    obtain ⟨xs,hx,he⟩:=h
    simp only [Prod.mk.injEq] at he
    obtain ⟨rfl,rfl⟩:=he
    rw [mapM_keep hx (fun f _ y hy hm=>ih _ _ y.1 y.2 hst hy (fun q hq=>hs q (List.mem_flatMap.2 ⟨y,hm,hq⟩)))]
    rfl
   ·cases h
  case h_12 ms u v=>exact h
  case h_14 k e b =>
   cases hb:W.heap[b]? with
   | none=>rw [hb] at h; cases h
   | some o =>
    have hlt:b<W.heap.size:=by
     rcases Nat.lt_or_ge b W.heap.size with hlt | hge
     ·exact hlt
     ·rw [Array.getElem?_eq_none hge] at hb;cases hb
    rw [hb] at h
    rw [hk b hlt,hb]
    cases o with
    | map es clock =>
     simp only at h ⊢
     split at h
     ·rename_i hc
      rw [if_pos hc]
      rw [Option.bind_eq_some_iff] at h
      obtain ⟨entries,he,h⟩:=h
      have he':entries.flatMap (fun x=>x.2) ⊆ p:=by
       split at h
       ·simp only [Option.some.injEq,Prod.mk.injEq] at h
        rw [← h.2]
        exact fun x hx=>List.mem_cons_of_mem _ hx
       ·cases h
      rw [mapM_keep (g:=fun x=>(keyOf P k x.key).bind fun key=>if x.val.formed P e then (DataW.trod enc P W' base sp' true fuel e x.val.cells.toList).map fun y=>((key,y.1),y.2) else none) he (fun x _ y hy hm=>by
       rw [Option.bind_eq_some_iff] at hy ⊢
       obtain ⟨key,hkey,hy⟩:=hy
       refine ⟨key,hkey,?_⟩
       split at hy
       ·rename_i hf
        rw [if_pos hf]
        rw [Option.map_eq_some_iff] at hy ⊢
        obtain ⟨z,hz',rfl⟩:=hy
        exact ⟨z,ih e _ z.1 z.2 hst hz' (fun q hq=>hs q (he' (List.mem_flatMap.2 ⟨_,hm,hq⟩))),rfl⟩
       ·cases hy)]
      exact h
     ·cases h
    | _=>cases h
  all_goals exact h
theorem trodAll_keep {H:Type} {enc:TypeId×Value→H} {P:Program} {W W':World} {base:Nat} {sp sp':Nat→Bool} {l:List TypeId} (hk:∀ b,b<W.heap.size→W'.heap[b]?=W.heap[b]?)
  (hz:closedT P l=true) (hsp:∀ b,sp b=true):∀ (ts:List TypeId) (vs:List Value) (ds:List (DataW H)) (p:List MemPlace),(∀ t∈ts,inL l t=true)→DataW.TrodAll enc P W base sp true ts vs ds p →
   (∀ q∈p,sp' q.block=true)→DataW.TrodAll enc P W' base sp' true ts vs ds p
 | [],[],[],p,_,h,_=>h
 | t::ts,v::vs,d::ds,p,hl,⟨p1,q1,⟨fuel,h1⟩,h2,e⟩,hs =>
  ⟨p1,q1,⟨fuel,trod_keep hk hz hsp fuel t _ d p1 (hl t (by simp)) h1 (fun q hq=>hs q (by rw [e];simp [hq]))⟩,trodAll_keep hk hz hsp ts vs ds q1 (fun t ht=>hl t (by simp [ht])) h2 (fun q hq=>hs q (by rw [e];simp [hq])),e⟩
theorem ints_den {H:Type} {enc:TypeId×Value→H} {P:Program} {W:World} {base0 base:Nat} {sp:Nat→Bool} {held:Bool} {t e:TypeId} {k:IntKind} (ht:P.underlying t=some (.slice e)) (he:P.underlying e=some (.int k)) (hc:P.cellsOf e=1)
  {v:Value} {d:DataW H} {p:List MemPlace} (hok:Value.okWide P W .any base0 t v) (h:DataW.Trod enc P W base sp held t v d p) :
  ∃ ns:List Int,ns.length≤maxLen∧DenV (Dw W) rho0 (.c (.sl 1 ns.length (fun i _ => .int k (ns.getD i 0)))) v:=by
 obtain ⟨fuel,hf⟩:=h
 obtain ⟨a0,len0,cap0,rfl⟩:=Go.WideShapes.okWide_slice ht hok
 rcases Go.ChangeShapes.open_ints ht he hc hf with ⟨hcs,_⟩ | ⟨a,len,cap,zs,hcs,_,hl,hm,hzl,_,hcell,_⟩
 ·have:Value.slice a0 len0 cap0 = .slice none 0 0:=by simpa [Value.cells] using hcs
  rw [this]
  exact ⟨[],Nat.zero_le _,none,0,rfl,Nat.le_refl _,Nat.zero_le _,.inl rfl⟩
 ·have hv:Value.slice a0 len0 cap0 = .slice (some a) len cap:=by simpa [Value.cells] using hcs
  rw [hv] at hok ⊢
  have hsp:a.spot=none:=by
   simp only [Value.okWide,ht,Cell.okWide,Cell.ok] at hok
   exact hok.2.2.2.1
  obtain ⟨b,o,spot⟩:=a
  simp only at hsp
  subst hsp
  have hle:len≤zs.length:=by rw [hzl];split<;>omega
  have hn:(zs.take len).length=len:=by rw [List.length_take];omega
  refine ⟨zs.take len,by rw [hn];omega,some ⟨b,o,none⟩,cap,by rw [hn],by rw [hn];exact hl,hm,.inr ⟨b,o,rfl,fun i hi j hj => ?_⟩⟩
  obtain rfl:j=0:=by omega
  rw [hn] at hi
  have:=hcell i oM
  rw [Go.WideShapes.add_plain] at this
  refine ⟨.int k (zs.getD i 0),by unfold Dw;rw [← this];congr 2;omega,?_⟩
  simp only [Den]
  congr 1
  simp [List.getD,List.getElem?_take,hi]
theorem int_den {P:Program} {W:World} {base0:Nat} {t:TypeId} {k:IntKind} (ht:P.underlying t=some (.int k)) {v:Value} (hok:Value.okWide P W .any base0 t v) :
  ∃ z:Int,DenV (Dw W) rho0 (.c (.int k z)) v:=by
 obtain ⟨n,rfl⟩:=Go.WideShapes.okWide_int ht hok
 exact ⟨n,rfl⟩
theorem str_den {P:Program} {W:World} {base0:Nat} {t:TypeId} (ht:P.underlying t=some .string) {v:Value} (hok:Value.okWide P W .any base0 t v) :
  ∃ s:List UInt8,DenV (Dw W) rho0 (.c (.str s)) v:=by
 obtain ⟨s,rfl⟩:=Go.WideShapes.okWide_string ht hok
 exact ⟨s.data.toList,by cases s;simp [DenV,Den]⟩
end Go.Sv
end
section
namespace Go.Sv
theorem list_of {α:Type} {d:α} {Q:Nat→α→Prop}:∀ n,(∀ i,i<n→∃ x,Q i x)→∃ l:List α,l.length=n∧∀ i,i<n→Q i (l.getD i d)
 | 0,_=>⟨[],rfl,fun i h=>absurd h (Nat.not_lt_zero i)⟩
 | n+1,h=>by
  obtain ⟨l,hl,hq⟩:=list_of (d:=d) n (fun i hi=>h i oM)
  obtain ⟨x,hx⟩:=h n oM
  refine ⟨l++[x],by simp [hl],fun i hi => ?_⟩
  rcases Nat.lt_or_ge i n with hlt | hge
  ·have:=hq i hlt
   rwa [List.getD_eq_getElem?_getD,List.getElem?_append_left oM,← List.getD_eq_getElem?_getD]
  ·obtain rfl:i=n:=by omega
   rw [List.getD_eq_getElem?_getD,← hl,List.getElem?_concat_length]
   rw [hl];exact hx
theorem mapM_get {α β:Type} {g:α→Option β}:∀ {l:List α} {ys:List β},l.mapM g=some ys→ys.length=l.length∧∀ (i:Nat) (x:α),l[i]?=some x→g x=ys[i]?
 | [],ys,h=>by
  obtain rfl:[]=ys:=by simpa using h
  exact ⟨rfl,fun i x hx=>by simp at hx⟩
 | a::l,ys,h=>by
  rw [List.mapM_cons] at h
  cases hx:g a with
  | none=>rw [hx] at h; cases h
  | some y =>
   rw [hx] at h
   cases hl:l.mapM g with
   | none=>rw [hl] at h; cases h
   | some zs =>
    rw [hl] at h
    obtain rfl:y::zs=ys:=by simpa using h
    obtain ⟨h1,h2⟩:=mapM_get hl
    refine ⟨by simp [h1],fun i x hi => ?_⟩
    cases i with
    | zero=>simp at hi; subst hi; simpa using hx
    | succ i=>simp at hi ⊢; exact h2 i x hi
theorem cells_get {W:World} {base n b o:Nat} {vl:List Value} (h:W.cells? base ⟨b,o,none⟩ n=some vl):vl.length=n∧∀ j,j<n→W.cell? ⟨b,o+j,none⟩=vl[j]?:=by
 unfold World.cells? at h
 split at h
 ·obtain ⟨h1,h2⟩:=mapM_get h
  rw [List.length_range] at h1
  refine ⟨h1,fun j hj => ?_⟩
  have:=h2 j j (by simp [hj])
  rw [← this,Go.WideShapes.add_plain]
 ·cases h
theorem okWide_cells {P:Program} {W:World} {r:Reach} {base:Nat} {t:TypeId} {fs:Array Field} {ts:List TypeId} (ht:P.underlying t=some (.struct fs)) (hct:P.cellTypes P.depth t=some ts) (hsz:P.cellsOf t=ts.length) {v:Value} (hok:Value.okWide P W r base t v) :
  ∃ us:Array Value,v = .agg us∧us.size=ts.length∧∀ (j:Nat) (u:Value),us[j]?=some u→∃ tj,ts[j]?=some tj∧Cell.okWide P W r base tj u:=by
 simp only [Value.okWide,ht] at hok
 obtain ⟨us,rfl,h2,ts',h3,_,h4⟩:=hok
 rw [hct] at h3
 obtain rfl:=Option.some.inj h3
 refine ⟨us,rfl,by rw [h2,hsz],fun j u hj => ?_⟩
 obtain ⟨tj,h5,h6⟩:=h4 j u hj
 have hlt:j<us.size:=by
  rcases Nat.lt_or_ge j us.size with h | h
  ·exact h
  ·rw [Array.getElem?_eq_none h] at hj;cases hj
 rw [Nat.mod_eq_of_lt oM] at h5
 exact ⟨tj,h5,h6⟩
theorem int_shape {P:Program} {w:World} {g:Nat} {t:TypeId} {zero:Array Value} {k:IntKind} (h:w.ShapedOpen P) (hg:g<P.globals.size)
  (h0:((begin P (fun _ _=>0) default).world.heap[g]?).bind Obj.row?=some (zero,t)) (hz:zero.size=1)
  (hb:P.buildable t=true) (hc:P.cellTypes P.depth t=some [t]) (hu:P.underlying t=some (.int k)):∃ (m:Int) (cs:Array Value) (fz:Nat×Nat),w.heap[g]?=some (.cells cs t fz)∧cs.size=1∧cs[0]?=some (.int k m):=by
 obtain ⟨cs,hh,hs,hr⟩:=h.1 g zero t hg h0
 obtain ⟨ts,hts,_,hall⟩:=hr hb
 rw [hc] at hts
 cases hts
 have h1:0<cs.size:=by omega
 obtain ⟨u,hu',hok⟩:=hall 0 cs[0] (by simp [h1])
 have:u=t:=by simpa using hu'.symm
 subst this
 have hcell:cs[0]?=some cs[0]:=by simp [h1]
 unfold Cell.ok at hok
 rw [hu] at hok
 cases hv:cs[0] with
 | int k' n =>
  rw [hv] at hok
  have hk:k'=k:=by first | exact hok.1 | exact hok.1.symm | (simp at hok;exact hok.1) | (simp at hok;exact hok.1.symm)
  subst hk
  exact ⟨n,cs,_,hh,by omega,by rw [hcell,hv]⟩
 | _=>rw [hv] at hok; simp at hok
theorem glob_plus {P:Program} {G:Nat→Option (List Cell)} {W:World} {laid:List (String×DataW Unit)} {g0:Nat} {k:IntKind} {m:Int} {cs0:Array Value} {t0:TypeId} {fz0:Nat×Nat} (h:laidMet P laid W)
  (hw:W.heap[g0]?=some (.cells cs0 t0 fz0)) (hs:cs0.size=1) (hx:cs0[0]?=some (.int k m)) (h0:G g0=some [.int k m])
  (hG:∀ g cs,g≠g0→G g=some cs→∃ n d t,(n,d)∈laid∧P.globalNamed n=some g∧(P.globals[g]?).map (·.type)=some t∧dc P 9 t d=some cs):GlobOk G (Dw W)∧GlobW G W:=by
 obtain ⟨k1,k2⟩:=glob_ok (G:=fun g=>if g=g0 then none else G g) (laid:=laid) h (fun g cs hg=>by
  split at hg
  ·cases hg
  ·rename_i hne;exact hG g cs hne hg)
 refine ⟨fun g cs hg j x hj => ?_,fun g cs hg hne => ?_⟩
 ·by_cases e:g=g0
  ·subst e
   rw [h0] at hg
   obtain rfl:=Option.some.inj hg
   cases j with
   | zero =>
    simp at hj;subst hj
    exact ⟨.int k m,by simp only [Dw,World.cell?,hw,Option.isSome_none,Bool.false_eq_true,if_false];exact hx,rfl⟩
   | succ j=>simp at hj
  ·exact k1 g cs (by show (if g=g0 then none else G g)=some cs;rw [if_neg e];exact hg) j x hj
 ·by_cases e:g=g0
  ·subst e
   rw [h0] at hg
   obtain rfl:=Option.some.inj hg
   exact ⟨cs0,t0,fz0,hw,by rw [hs];rfl⟩
  ·exact k2 g cs (by show (if g=g0 then none else G g)=some cs;rw [if_neg e];exact hg) hne
end Go.Sv
end
section
open Go Go.Sv Go.RowKit
namespace Go.Proofs.Tw
attribute [local irreducible] Wp FinQ resV Ent Pur Go.Sv.Fn Sat0
set_option maxRecDepth 100000
set_option maxHeartbeats 4000000
variable {G:Nat→Option (List Cell)} [Back G]
def hasT (L:List TT) (t:TT):Nat→Bool
 | 0=>false
 | k+1=>if hasT L t k=true then true else cmpT (L.getD k .nil) t==0
theorem hasT_all (L:List TT) (t:TT) (h:t∈L):hasT L t L.length=true:=by
 obtain ⟨i,hi,rfl⟩:=List.getElem_of_mem h
 have:∀ k,i<k→hasT L L[i] k=true:=by
  intro k hk
  induction k with
  | zero=>omega
  | succ k ih =>
   rw [hasT]
   split
   ·rfl
   ·rename_i hn
    have:k=i:=by
     rcases Nat.lt_or_ge i k with h1 | h1
     ·exact (hn (ih h1)).elim
     ·omega
    subst this
    rw [List.getD_eq_getElem?_getD,List.getElem?_eq_getElem hi]
    show (cmpT L[k] L[k]==0)=true
    rw [cmpT_self];rfl
 exact this _ hi
def standA (a k b:List UInt8):List UInt8:=a++k++b
def standB (a k b:List UInt8):List UInt8:=a++[46]++enc8 ([120]++k++[121])++[46]++b
theorem stand_A {a b:List UInt8} {t:TT} (ht:mayTT t=true):t∈fst1 (standA a (markB t) b):=by
 obtain ⟨tm,e1,e2⟩:=stands_1 a b ht (markB t) (by unfold markB;rw [if_pos ht])
 obtain ⟨x,hx,e⟩:=findP_has e2
 exact List.mem_map.2 ⟨x,hx,e.trans e1⟩
theorem stand_B {a b:List UInt8} {t:TT} (ht:mayTT t=true):t∈fst1 (standB a (markB t) b):=by
 obtain ⟨tm,e1,e2⟩:=stands_2 a b ht (markB t) (by unfold markB;rw [if_pos ht]) [120] [121]
 obtain ⟨x,hx,e⟩:=findP_has e2
 have hE:standB a (markB t) b=a++46::(enc8 ([120]++markB t++[121])++46::b):=by unfold standB;simp
 rw [hE]
 exact List.mem_map.2 ⟨x,hx,e.trans e1⟩
theorem markStands_ok {m:Int} (a:List UInt8) (l:List Int) (b:List UInt8) (hl:l.length≤9223372036854775807):Pur Tryz.prog (Gn m) 6 [.c (.str a),.c (.sl 1 l.length (intsF l)),.c (.str b)] [.c (.bool true)]:=by
 have hG:Gn m 1=some [.int .i64 m]:=rfl
 refine zp Tryz.func6 ?_
 have ck:=known9_ok hG
 by_cases ha:a.length>200
 ·have hab:decide ((a.length:Int)>200)=true:=by simp;omega
  refine zg [(3,{grd:=[(4,false),(5,false),(6,false),(7,true)]}),(1,{cs:=[(0,pc ck)]})] [false,true] [(!true)=false,decide ((a.length:Int)>200) = !false,decide ((a.length:Int)>200) = !false,decide ((a.length:Int)>200) = !false,decide ((a.length:Int)>200)=true,true=true] ⟨rfl,aS,aS,aS,aS,rfl⟩ ?_
  exact zr
 have hab:decide ((a.length:Int)>200)=false:=by simp;omega
 by_cases hb:b.length>200
 ·have hbb:decide ((b.length:Int)>200)=true:=by simp;omega
  refine zg [(1,{cs:=[(0,pc ck)]})] [false,true] [(!true)=false,(bif decide ((a.length:Int)>(200:Int)) then true else decide ((b.length:Int)>(200:Int)))=true] ⟨rfl,(show (bif decide ((↑a.length:Int)>(200:Int)) then true else decide ((↑b.length:Int)>(200:Int)))=true from sO)⟩ ?_
  exact zr
 have hbb:decide ((b.length:Int)>200)=false:=by simp;omega
 have ct:=one1_ok (G:=Gn m) l hl
 have hm:=tmM_may l 4 0 oM
 have ce:=textT_ok (G:=Gn m) (low_toT (tmM l 4 0).1) (toK (tmM l 4 0).1) (Rep_toK (tmM l 4 0).1)
 have hln:(markB (toT (tmM l 4 0).1)).length≤750:=markN_len l 4 0
 have hA:=stand_A (a:=a) (b:=b) hm
 have hB:=stand_B (a:=a) (b:=b) hm
 obtain ⟨xk,hxk⟩:∃ xk,xk=[120]++markB (toT (tmM l 4 0).1)++[121]:=⟨_,rfl⟩
 have eX:EqvD (.c (.str ([120]++markB (toT (tmM l 4 0).1)++[121]))) (.c (.str xk)):=eqvD_of (by rw [hxk])
 have hlx:xk.length=2+(markB (toT (tmM l 4 0).1)).length:=by rw [hxk];simp;omega
 have c8:=enc8_ok (G:=Gn m) xk oM
 have hel:=enc8_len xk
 have hnA:(standA a (markB (toT (tmM l 4 0).1)) b).length≤200000:=by unfold standA;simp;omega
 have hnB:(standB a (markB (toT (tmM l 4 0).1)) b).length≤200000:=by
  unfold standB
  rw [← hxk]
  simp only [List.length_append,List.length_cons,List.length_nil]
  omega
 have f1:=find_ok (G:=Gn m) hG _ hnA
 have f2:=find_ok (G:=Gn m) hG _ hnB
 have eA:EqvD (.c (.str (a++markB (toT (tmM l 4 0).1)++b))) (.c (.str (standA a (markB (toT (tmM l 4 0).1)) b))):=eqvD_of rfl
 have eB:EqvD (.c (.str (a++[46]++enc8 xk++[46]++b))) (.c (.str (standB a (markB (toT (tmM l 4 0).1)) b))):=eqvD_of (by rw [hxk];rfl)
 have lA:=fst1_low (standA a (markB (toT (tmM l 4 0).1)) b)
 have lB:=fst1_low (standB a (markB (toT (tmM l 4 0).1)) b)
 have nA:=fst1_len (standA a (markB (toT (tmM l 4 0).1)) b)
 have nB:=fst1_len (standB a (markB (toT (tmM l 4 0).1)) b)
 unfold rowF1 at f1 f2
 generalize standA a (markB (toT (tmM l 4 0).1)) b=sA at *
 generalize standB a (markB (toT (tmM l 4 0).1)) b=sB at *
 have lT:=low_toT (tmM l 4 0).1
 have rT:=Rep_toK (tmM l 4 0).1
 clear hxk
 generalize enc8 xk=ok at *
 generalize markB (toT (tmM l 4 0).1)=kk at *
 generalize toT (tmM l 4 0).1=t at *
 generalize toK (tmM l 4 0).1=y at *
 have hA:=hasT_all _ _ hA
 have hB:=hasT_all _ _ hB
 have aA:∀ k,EqvD (.agg [rowF encK .nil ((fst1 sA).map ktOf) k 0,rowF encK .nil ((fst1 sA).map ktOf) k 1,rowF encK .nil ((fst1 sA).map ktOf) k 2,rowF encK .nil ((fst1 sA).map ktOf) k 3]) (.agg (encK (((fst1 sA).map ktOf).getD k .nil))):=fun k=>eqvD_of rfl
 have aB:∀ k,EqvD (.agg [rowF encK .nil ((fst1 sB).map ktOf) k 0,rowF encK .nil ((fst1 sB).map ktOf) k 1,rowF encK .nil ((fst1 sB).map ktOf) k 2,rowF encK .nil ((fst1 sB).map ktOf) k 3]) (.agg (encK (((fst1 sB).map ktOf).getD k .nil))):=fun k=>eqvD_of rfl
 have gA:∀ k,k<(fst1 sA).length→((fst1 sA).map ktOf).getD k .nil=ktOf ((fst1 sA).getD k .nil):=fun k h=>map_getD _ _ h
 have gB:∀ k,k<(fst1 sB).length→((fst1 sB).map ktOf).getD k .nil=ktOf ((fst1 sB).getD k .nil):=fun k h=>map_getD _ _ h
 generalize rowF encK .nil ((fst1 sA).map ktOf)=FA at *
 generalize rowF encK .nil ((fst1 sB).map ktOf)=FB at *
 generalize fst1 sA=LA at *
 generalize fst1 sB=LB at *
 refine zg [(6,{cs:=[(2,pc ce),(6,pc f1)],fm:=[(5,.c (.str sA))]}),(7,{cs:=[(3,pc ce),(7,lc [464] [.row 5 (1:Nat) xk.length fun (i x:Nat) => .int .u8 (↑(xk.getD i (0:UInt8)).toNat:Int)] [.c (.row 1 (0:Nat) (0:Nat) xk.length)] c8 kR kR kR (show (0:Nat)+xk.length≤xk.length from oM)),(12,pc f2)],fm:=[(5,.c (.str xk)),(11,.c (.str sB))]}),(1,{cs:=[(0,pc ck)]}),(5,{cs:=[(1,pc ct)]})] [false,false] [(!true)=false,(bif decide ((a.length:Int)>(200:Int)) then true else decide ((b.length:Int)>(200:Int)))=false,a.length+kk.length≤9223372036854775807,EqvI (.c (.str (a++kk++b))) (.c (.str sA)),EqvD (.c (.str (a++kk++b))) (.c (.str sA)),(a++kk).length+b.length≤9223372036854775807,a.length+1≤9223372036854775807,1+kk.length≤9223372036854775807,EqvI (.c (.str ([(120:UInt8)]++kk++[(121:UInt8)]))) (.c (.str xk)),EqvD (.c (.str ([(120:UInt8)]++kk++[(121:UInt8)]))) (.c (.str xk)),([(120:UInt8)]++kk).length+(1:Nat)≤(9223372036854775807:Nat),xk.length≤140737488355328,(a++[(46:UInt8)]).length+ok.length≤(9223372036854775807:Nat),(a++[(46:UInt8)]++ok).length+(1:Nat)≤(9223372036854775807:Nat),EqvI (.c (.str (a++[(46:UInt8)]++ok++[(46:UInt8)]++b))) (.c (.str sB)),EqvD (.c (.str (a++[(46:UInt8)]++ok++[(46:UInt8)]++b))) (.c (.str sB)),(a++[(46:UInt8)]++ok++[(46:UInt8)]).length+b.length≤(9223372036854775807:Nat)] ⟨rfl,sO,oM,fun _ _=>trivial,aS,sO,oM,oM,fun _ _=>trivial,aS,sO,oM,sO,sO,fun _ _=>trivial,aS,(show (a++[(46:UInt8)]++ok++[(46:UInt8)]).length+b.length≤(9223372036854775807:Nat) from sO)⟩ ?_
 have hk0:∀ L:List TT,hasT L t 0=false:=fun _=>rfl
 have cS:∀ (x:TT),LowR x→Pur Tryz.prog (Gn m) 35 [.agg (encK (ktOf x)),.agg (encK y)] [.c (.bool (cmpT x t==0))]:=fun x hx=>same1_ok (ktOf x) y hx lT (Rep_ktOf x) rT
 refine zl (fun (x:Nat×Bool)=>⟨[(7,.v (.c (.ptr 208 0))),(8,.v (.c (.sl 4 LA.length FA))),(9,.v (.c (.sl 4 LB.length FB))),(10,.v (.c (.bool x.2))),(11,.v (.c (.bool false))),(12,.v (.c (.int .i64 (x.1:Int))))],[(208,.box 64 (encK y))],640⟩) (fun x=>x.1≤LA.length∧x.2=hasT LA t x.1) (fun x=>LA.length-x.1) (0,false) ⟨Nat.zero_le _,rfl⟩ ?_
 rintro ⟨k,h⟩ L ⟨hk,hh⟩ again
 have hk:k≤LA.length:=hk
 have hh:h=hasT LA t k:=hh
 by_cases hi:k<LA.length
 ·have hib:decide ((k:Int)<(LA.length:Int))=true:=by simp;omega
  cases h with
  | true =>
   have hq:k+1≤LA.length∧true=hasT LA t (k+1):=⟨hi,by rw [hasT,if_pos hh.symm]⟩
   clear hh hA hB aA aB gA gB lA lB cS
   refine zg [(12,{grd:=[(2,false),(3,false),(4,false),(5,false),(6,false),(7,false),(8,true)]})] [true] [decide ((k:Int)<(LA.length:Int))=true,true = !false,true = !false,true = !false,true = !false,true = !false,true = !false,true=true,inR .i64 ((k:Int)+1)] ⟨aS,rfl,rfl,rfl,rfl,rfl,rfl,rfl,i6⟩ ?_
   exact za [] (again _ (k+1,true) oM oM)
  | false =>
   have hq:k+1≤LA.length∧(cmpT (LA.getD k .nil) t==0)=hasT LA t (k+1):=⟨hi,by rw [hasT,if_neg (by rw [← hh];decide)]⟩
   have e1:=aA k
   have c:=cS (LA.getD k .nil) (lA _ (by rw [List.getD_eq_getElem?_getD,List.getElem?_eq_getElem hi];exact List.getElem_mem hi))
   rw [gA k hi] at e1
   clear hh hA hB aA aB gA gB lA lB cS
   generalize ktOf (LA.getD k .nil)=z at *
   generalize (cmpT (LA.getD k .nil) t==0)=r at *
   refine zg [(12,{cs:=[(7,pc c)],fm:=[(5,.agg (encK z))]})] [true] [decide ((k:Int)<(LA.length:Int))=true,false=false→(0:Int)≤(k:Int)∧(k:Int)<(LA.length:Int),false=false→EqvD (.agg [FA k 0,FA k (0+1),FA k (0+1+1),FA k (0+1+1+1)]) (.agg (encK z)),inR .i64 ((k:Int)+1)] ⟨aS,oM,(by intro _;assumption),i6⟩ ?_
   exact za [] (again _ (k+1,r) oM oM)
 ·have hib:decide ((k:Int)<(LA.length:Int))=false:=by simp;omega
  have hT:h=true:=by rw [hh,show k=LA.length by omega];exact hA
  subst hT
  clear again aA gA lA hh hA
  refine zg [] [false] [decide ((k:Int)<(LA.length:Int))=false] (oN aS) ?_
  refine zl (fun (x:Nat×Bool)=>⟨[(7,.v (.c (.ptr 208 0))),(9,.v (.c (.sl 4 LB.length FB))),(10,.v (.c (.bool true))),(11,.v (.c (.bool x.2))),(13,.v (.c (.int .i64 (x.1:Int))))],[(208,.box 64 (encK y))],704⟩) (fun x=>x.1≤LB.length∧x.2=hasT LB t x.1) (fun x=>LB.length-x.1) (0,false) ⟨Nat.zero_le _,rfl⟩ ?_
  rintro ⟨k,h⟩ L2 ⟨hk,hh⟩ again
  have hk:k≤LB.length:=hk
  have hh:h=hasT LB t k:=hh
  by_cases hi:k<LB.length
  ·have hib:decide ((k:Int)<(LB.length:Int))=true:=by simp;omega
   cases h with
   | true =>
    have hq:k+1≤LB.length∧true=hasT LB t (k+1):=⟨hi,by rw [hasT,if_pos hh.symm]⟩
    clear hh hB aB gB lB cS
    refine zg [(16,{grd:=[(2,false),(3,false),(4,false),(5,false),(6,false),(7,false),(8,true)]})] [true] [decide ((k:Int)<(LB.length:Int))=true,true = !false,true = !false,true = !false,true = !false,true = !false,true = !false,true=true,inR .i64 ((k:Int)+1)] ⟨aS,rfl,rfl,rfl,rfl,rfl,rfl,rfl,i6⟩ ?_
    exact za [] (again _ (k+1,true) oM oM)
   | false =>
    have hq:k+1≤LB.length∧(cmpT (LB.getD k .nil) t==0)=hasT LB t (k+1):=⟨hi,by rw [hasT,if_neg (by rw [← hh];decide)]⟩
    have e1:=aB k
    have c:=cS (LB.getD k .nil) (lB _ (by rw [List.getD_eq_getElem?_getD,List.getElem?_eq_getElem hi];exact List.getElem_mem hi))
    rw [gB k hi] at e1
    clear hh hB aB gB lB cS
    generalize ktOf (LB.getD k .nil)=z at *
    generalize (cmpT (LB.getD k .nil) t==0)=r at *
    refine zg [(16,{cs:=[(7,pc c)],fm:=[(5,.agg (encK z))]})] [true] [decide ((k:Int)<(LB.length:Int))=true,false=false→(0:Int)≤(k:Int)∧(k:Int)<(LB.length:Int),false=false→EqvD (.agg [FB k 0,FB k (0+1),FB k (0+1+1),FB k (0+1+1+1)]) (.agg (encK z)),inR .i64 ((k:Int)+1)] ⟨aS,oM,(by intro _;assumption),i6⟩ ?_
    exact za [] (again _ (k+1,r) oM oM)
  ·have hib:decide ((k:Int)<(LB.length:Int))=false:=by simp;omega
   have hT:h=true:=by rw [hh,show k=LB.length by omega];exact hB
   subst hT
   clear again aB gB lB hh hB
   refine zg [] [false] [decide ((k:Int)<(LB.length:Int))=false] (oN aS) ?_
   exact zr
theorem kidsI_le (k:Int):kidsI k≤2:=by
 unfold kidsI
 split
 ·omega
 ·split
  ·omega
  ·split<;>omega
theorem stop_few {t:TT} {d c:Int} (h:stopW t d c=false):t.kids.length≤1000000:=by
 have h1:=(right_iff (stopW_no h).2.2).1
 have h2:=kidsI_le t.k
 omega
theorem kid_size {t:TT} {i:Nat} (h:i<t.kids.length) {n:Nat} (hn:SizeOf.sizeOf t≤n+1):SizeOf.sizeOf (t.kids.getD i .nil)≤n:=by
 cases t with
 | mk k m s ks =>
  have h:i<ks.length:=h
  have hm:ks.getD i .nil∈ks:=by
   rw [List.getD_eq_getElem?_getD,List.getElem?_eq_getElem h];exact List.getElem_mem h
  have:=TT.kid_lt (k:=k) (n:=m) (s:=s) hm
  show SizeOf.sizeOf (ks.getD i .nil)≤n
  omega
theorem tt_size (t:TT):1≤SizeOf.sizeOf t:=by cases t;simp;omega
theorem mayW1_any:∀ (n:Nat) (t:TT),SizeOf.sizeOf t≤n→∀ (x:KT) (d c:Int),Rep t x→0≤d→d≤17→0≤c→c≤64 →
  FnB Tryz.prog G 184 [bxW c,bcW (fun i=>selW i 0 1)] [.agg (encK x),.c (.int .i64 d),.c (.ptr 0 0),.c (.ptr 1 0)] [.c (.bool (walkM t d c).1)] [(0,bxW (walkM t d c).2),(1,bcW (fun i=>selW i 0 1))]
 | 0,t,hn=>by have:=tt_size t; omega
 | n+1,t,hn=>fun x d c hx d0 d1 c0 c1=>may1_main t x d c hx stop_few ⟨d0,d1⟩ ⟨c0,c1⟩ fun i hi u c' q0 q1 q2 hu=>mayW1_any n _ (kid_size hi hn) u (d+1) c' hu oM q2 q0 q1
theorem walkR_any:∀ (n:Nat) (t:TT),SizeOf.sizeOf t≤n→∀ (x:KT) (d left:Int),Rep t x→0≤d→d≤17→0≤left→left≤64 →
  Pur Tryz.prog G 180 [.agg (encK x),.c (.int .i64 d),.c (.int .i64 left)] [.c (.int .i64 (walkV t d left))]
 | 0,t,hn=>by have:=tt_size t; omega
 | n+1,t,hn=>fun x d left hx d0 d1 c0 c1=>walkR_main t x d left hx stop_few ⟨d0,d1⟩ ⟨c0,c1⟩ fun i hi u c' q0 q1 q2 hu=>walkR_any n _ (kid_size hi hn) u (d+1) c' hu oM q2 q0 q1
theorem mayT_any (t:TT) (x:KT) (hx:Rep t x):Pur Tryz.prog G 140 [.agg (encK x)] [.c (.bool (mayTT t))]:=by
 refine zp Tryz.func140 ?_
 have c:=mayW1_any (G:=G) _ t (Nat.le_refl _) x 1 0 hx oM oM oM oM
 unfold mayTT
 generalize walkM t 1 0=y at *
 have f1:=cloW_I 184 (fun i=>sigIn [32,64] (selW i 0 1)) 32 64 rfl rfl
 have f2:=cloW_D 184 (fun i=>sigIn [32,64] (selW i 0 1)) 32 64 rfl rfl
 refine zg [(3,{fm:=[(0,.c (cloW 184 (fun i=>sigIn [32,64] (selW i 0 1))))]}),(4,{cs:=[(2,cb [32,64] c)]})] [] [type_of% f1,type_of% f2] ⟨f1,f2⟩ ?_
 exact zr
theorem mayR_any (t:TT) (x:KT) (hx:Rep t x):Pur Tryz.prog G 133 [.agg (encK x)] [.c (.bool (mayTT t))]:=by
 refine zp Tryz.func133 ?_
 have c:=walkR_any (G:=G) _ t (Nat.le_refl _) x 1 64 hx oM oM oM oM
 have hr:=walkM_rng t 1 0 oM oM
 have e:decide (walkV t 1 64≥0)=mayTT t:=by
  unfold mayTT walkV
  rw [show (64:Int)-64=0 by omega]
  by_cases h:(walkM t 1 0).1=true
  ·rw [if_pos h,h];have:=hr.2.2 h;simp;omega
  ·rw [if_neg h,Bool.eq_false_iff.2 h];rfl
 rw [← e]
 refine z0 [(1,{cs:=[(1,pc c)]})] [] ?_
 exact zr
theorem putP_noA (t:TT) (x:KT) (hx:Rep t x) (hm:mayTT t=false):Pur Tryz.prog G 87 [.agg (encK x)] [.c .nilsl]:=by
 refine zp Tryz.func87 ?_
 have c:=mayT_any (G:=G) t x hx
 rw [hm] at c
 refine zg [(1,{cs:=[(1,pc c)]})] [true] [(!false)=true] rfl ?_
 exact zr
theorem putR_noA (t:TT) (x:KT) (hx:Rep t x) (hm:mayTT t=false):Pur Tryz.prog G 81 [.agg (encK x)] [.c .nilsl]:=by
 refine zp Tryz.func81 ?_
 have c:=mayR_any (G:=G) t x hx
 rw [hm] at c
 refine zg [(1,{cs:=[(1,pc c)]})] [true] [(!false)=true] rfl ?_
 exact zr
theorem walkL_each:∀ (l:List TT) (d c:Int),(walkL l d c).1=true→∀ x∈l,∃ c',(walkM x d c').1=true
 | [],d,c,_,x,h=>by cases h
 | y::r,d,c,hw,x,h=>by
  rw [walkL] at hw
  split at hw
  ·rename_i hy
   rcases List.mem_cons.1 h with rfl | h
   ·exact ⟨c,hy⟩
   ·exact walkL_each r d _ hw x h
  ·cases hw
theorem low_may:∀ (n:Nat) (t:TT),SizeOf.sizeOf t≤n→∀ d c,(walkM t d c).1=true→LowR t
 | 0,t,hn=>by have:=tt_size t; omega
 | n+1,t,hn=>fun d c hw=>by
  rw [walkM_eq] at hw
  split at hw
  ·cases hw
  ·rename_i hs
   refine .mk (stop_few (by simpa using hs)) fun x hx => ?_
   obtain ⟨c',h⟩:=walkL_each _ _ _ hw x hx
   obtain ⟨i,hi,rfl⟩:=List.getElem_of_mem hx
   have:=kid_size hi hn
   rw [List.getD_eq_getElem?_getD,List.getElem?_eq_getElem hi] at this
   exact low_may n _ this _ _ h
theorem textA_ok (t:TT) (x:KT) (hx:Rep t x):Pur Tryz.prog G 36 [.agg (encK x)] [.c (.str (markB t))]:=by
 cases h:mayTT t with
 | true=>exact textT_ok (low_may _ t (Nat.le_refl _) 1 0 h) x hx
 | false =>
  refine zp Tryz.func36 ?_
  unfold markB
  rw [if_neg (by rw [h];decide)]
  have c1:=putP_noA (G:=G) t x hx h
  clear hx h
  refine zg [(1,{cs:=[(1,pc c1)]})] [true] [((0:Int)==(0:Int))=true] rfl ?_
  exact zr
theorem text9A_ok (t:TT) (x:KT) (hx:Rep t x):Pur Tryz.prog G 29 [.agg (encK x)] [.c (.str (markB t))]:=by
 cases h:mayTT t with
 | true=>exact text9_ok (low_may _ t (Nat.le_refl _) 1 0 h) x hx
 | false =>
  refine zp Tryz.func29 ?_
  unfold markB
  rw [if_neg (by rw [h];decide)]
  have c1:=putR_noA (G:=G) t x hx h
  clear hx h
  refine zg [(1,{cs:=[(1,pc c1)]})] [true] [((0:Int)==(0:Int))=true] rfl ?_
  exact zr
inductive BigR:TT→Prop
 | mk {t:TT}:t.kids.length≤9223372036854775807→(∀ x∈t.kids,BigR x)→BigR t
def fewV (left:Int) (n:Nat):Int:=IntKind.i64.wrap (IntKind.i64.wrap (left-1)-(n:Int))
mutual
def fewT:TT→Int→Int
 | .mk _ _ s ks,left=>fewL ks (fewV left s.length)
def fewL:List TT→Int→Int
 | [],left=>left
 | t::r,left=>if left<0 then left else fewL r (fewT t left)
end
theorem fewT_eq (t:TT) (left:Int):fewT t left=fewL t.kids (fewV left t.s.length):=by cases t;rw [fewT];rfl
theorem fewL_neg (l:List TT) {y:Int} (h:y<0):fewL l y=y:=by
 cases l with
 | nil=>rw [fewL]
 | cons t r=>rw [fewL,if_pos h]
theorem fewL_drop {l:List TT} {i:Nat} (h:i<l.length) {y:Int} (hy:¬ y<0):fewL (l.drop i) y=fewL (l.drop (i+1)) (fewT (l.getD i .nil) y):=by
 rw [List.drop_eq_getElem_cons h,fewL,if_neg hy];simp [List.getD,h]
theorem few_main (t:TT) (x:KT) (left:Int) (hx:Rep t x) (hl:t.kids.length≤9223372036854775807)
  (ih:∀ i,i<t.kids.length→∀ u c,Rep (t.kids.getD i .nil) u→Pur Tryz.prog G 27 [.agg (encK u),.c (.int .i64 c)] [.c (.int .i64 (fewT (t.kids.getD i .nil) c))]) :
  Pur Tryz.prog G 27 [.agg (encK x),.c (.int .i64 left)] [.c (.int .i64 (fewT t left))]:=by
 refine zp Tryz.func27 ?_
 obtain ⟨a1,a2,a3,a4,a5⟩:=(Rep_eq t x).1 hx
 rw [fewT_eq,← a3]
 generalize hR:fewL t.kids (fewV left x.s.length)=R
 unfold fewV at hR
 refine z0 [(1,{wrp:=[(1,()),(5,())]})] [] ?_
 refine zl (fun (z:Nat×Int)=>⟨[(1,.v (.c (.int .i64 z.2))),(2,.v (.c (.ptr 0 0))),(5,.v (.c (.int .i64 (z.1:Int))))],[(0,.box 64 (encK x))],160⟩) (fun z=>z.1≤t.kids.length∧fewL (t.kids.drop z.1) z.2=R) (fun z=>t.kids.length-z.1) (0,IntKind.i64.wrap (IntKind.i64.wrap (left-1)-(x.s.length:Int))) ⟨Nat.zero_le _,hR⟩ ?_
 rintro ⟨i,y⟩ W ⟨hi0,hi1⟩ again
 have hi0:i≤t.kids.length:=hi0
 have hi1:fewL (t.kids.drop i) y=R:=hi1
 by_cases hi:i<t.kids.length
 ·have hib:decide ((i:Int)<(x.m:Int))=true:=by simp;omega
  by_cases hy:y<0
  ·rw [fewL_neg _ hy] at hi1
   subst hi1
   have hyb:decide (y≥0)=false:=by simp;omega
   clear again ih
   refine zg [] [false] [(bif decide ((i:Int)<(x.m:Int)) then decide (y≥(0:Int)) else false)=false] (oN sO) ?_
   exact zr
  ·have hyb:decide (y≥0)=true:=by simp;omega
   rw [fewL_drop hi hy] at hi1
   obtain ⟨u,u1,u2⟩:=RepL_at a5 i hi
   rw [Nat.zero_add] at u1
   have c5:=ih i hi u y u2
   have e5:EqvD (.agg [x.f i 0,x.f i 1,x.f i 2,x.f i 3]) (.agg (encK u)):=eqvD_of (by rw [u1])
   generalize fewT (t.kids.getD i .nil) y=y2 at *
   have hq:i+1≤t.kids.length∧fewL (t.kids.drop (i+1)) y2=R:=⟨hi,hi1⟩
   have him:i<x.m:=by omega
   have hmx:x.m≤9223372036854775807:=by omega
   clear ih a5 u1 u2 hR hi1
   refine zg [(5,{cs:=[(6,pc c5)],fm:=[(4,.agg (encK u))]})] [true] [(bif decide ((i:Int)<(x.m:Int)) then decide (y≥(0:Int)) else false)=true,(0:Int)≤(i:Int)∧(i:Int)<(x.m:Int),EqvD (.agg [x.f i 0,x.f i (0+1),x.f i (0+1+1),x.f i (0+1+1+1)]) (.agg (encK u)),inR .i64 ((i:Int)+1)] ⟨sO,oM,aS,i6⟩ ?_
   exact za [] (again _ (i+1,y2) oM oM)
 ·have hib:decide ((i:Int)<(x.m:Int))=false:=by simp;omega
  have hE:R=y:=by rw [← hi1,List.drop_eq_nil_of_le oM,fewL]
  subst hE
  clear again ih hi1
  refine zg [(3,{grd:=[(6,false),(7,false),(8,false)]})] [false] [decide ((i:Int)<(x.m:Int)) = !true,decide ((i:Int)<(x.m:Int)) = !true,decide ((i:Int)<(x.m:Int))=false,false=false] ⟨aS,aS,aS,rfl⟩ ?_
  exact zr
theorem few_ok {t:TT} (ht:BigR t):∀ (x:KT) (left:Int),Rep t x→Pur Tryz.prog G 27 [.agg (encK x),.c (.int .i64 left)] [.c (.int .i64 (fewT t left))]:=by
 induction ht with
 | @mk t h1 h2 ih =>
  intro x left hx
  exact few_main t x left hx h1 fun i hi u c hu=>ih _ (by rw [List.getD_eq_getElem?_getD,List.getElem?_eq_getElem hi];exact List.getElem_mem hi) u c hu
end Go.Proofs.Tw
end
section
open Go Go.Sv Go.RowKit
namespace Go.Proofs.Tw
attribute [local irreducible] Wp FinQ resV Ent Pur Go.Sv.Fn Sat0
set_option maxRecDepth 100000
set_option maxHeartbeats 4000000
variable {G:Nat→Option (List Cell)}
def readTT (s:List UInt8):TT:=match readT s with
 | some t=>toT t
 | none => .nil
theorem readTT_low (s:List UInt8):LowR (readTT s):=by
 unfold readTT
 split
 ·exact low_toT _
 ·exact .mk (by show 0≤_;omega) (fun x h=>by cases h)
theorem readTT_rep (s:List UInt8):Rep (readTT s) (readK s):=by
 unfold readTT readK
 cases readT s with
 | some t=>exact Rep_toK t
 | none=>show Rep TT.nil KT.nil; rw [TT.nil,Rep]; exact ⟨rfl,rfl,rfl,rfl,by rw [RepL]; trivial⟩
theorem numR_two (s:List UInt8):∃ (n:Int) (b:Bool),numR s=[.c (.int .i64 n),.c (.bool b)]:=by
 unfold numR
 split
 ·split
  ·exact ⟨_,_,rfl⟩
  ·exact ⟨_,_,rfl⟩
 ·exact ⟨_,_,rfl⟩
theorem markAll_ok {m:Int} (t:TT) (x:KT) (hx:Rep t x) (hb:BigR t) (l:List Int) (s:List UInt8) (n:Int) (hl:l.length≤9223372036854775807) :
  Pur Tryz.prog (Gn m) 4 [.agg (encK x),.c (.sl 1 l.length (intsF l)),.c (.str s),.c (.int .i64 n)] [.c (.bool true)]:=by
 have hG:Gn m 1=some [.int .i64 m]:=rfl
 have ck:=known9_ok hG
 have cf:=few_ok (G:=Gn m) hb x 3000 hx
 refine zp Tryz.func4 ?_
 generalize fewT t 3000=fw at *
 by_cases hf:fw<0
 ·have hfb:decide (fw<0)=true:=decide_eq_true hf
  refine zg [(3,{cs:=[(1,pc cf)],grd:=[(4,false),(5,false),(6,false),(7,true)]}),(1,{cs:=[(0,pc ck)]})] [false,true] [(!true)=false,decide (fw<(0:Int)) = !false,decide (fw<(0:Int)) = !false,decide (fw<(0:Int)) = !false,decide (fw<(0:Int))=true,true=true] ⟨rfl,aS,aS,aS,aS,rfl⟩ ?_
  exact zr
 have hfb:decide (fw<0)=false:=decide_eq_false hf
 by_cases hs:s.length>300
 ·have hsb:decide ((s.length:Int)>300)=true:=by simp;omega
  refine zg [(1,{cs:=[(0,pc ck)]}),(3,{cs:=[(1,pc cf)]})] [false,true] [(!true)=false,(bif decide (fw<(0:Int)) then true else decide ((s.length:Int)>(300:Int)))=true] ⟨rfl,(show (bif decide (fw<(0:Int)) then true else decide ((↑s.length:Int)>(300:Int)))=true from sO)⟩ ?_
  exact zr
 have hsb:decide ((s.length:Int)>300)=false:=by simp;omega
 have c1:=texts_ok (G:=Gn m) l hl 3 oM
 have c2:=one1_ok (G:=Gn m) l hl
 have c3:=text9_ok (G:=Gn m) (low_toT (tmM l 4 0).1) (toK (tmM l 4 0).1) (Rep_toK (tmM l 4 0).1)
 have c3:Pur Tryz.prog (Gn m) 29 [.agg (encK (toK (tmM l 4 0).1))] [.c (.str (markN l 4 0))]:=c3
 have c3b:=textT_ok (G:=Gn m) (low_toT (tmM l 4 0).1) (toK (tmM l 4 0).1) (Rep_toK (tmM l 4 0).1)
 have c3b:Pur Tryz.prog (Gn m) 36 [.agg (encK (toK (tmM l 4 0).1))] [.c (.str (markN l 4 0))]:=c3b
 have c4:=key9_ok (G:=Gn m) n
 have c4b:=keyC_ok (G:=Gn m) n
 have cR:=textA_ok (G:=Gn m) t x hx
 have cR9:=text9A_ok (G:=Gn m) t x hx
 have n1:(textsT l 3).length≤1200:=texts_len l 3
 have n3:(markN l 4 0).length≤750:=markN_len l 4 0
 have n4:=mark_len (numTT n)
 obtain ⟨S,hS⟩:∃ S,S=[s,textsT l 3,markN l 4 0,markB (numTT n),[126]++s++[126]]:=⟨_,rfl⟩
 have el:EqvD (.c (.sl 1 5 (fun i j=>nthD [.str s,.str (textsT l 3),.str (markN l 4 0),.str (markB (numTT n)),.str ([126]++s++[126])] (i*1+j)))) (.c (.sl 1 5 (strsF S))):=by rw [hS];exact lit_D kR
 have hn:∀ k,(S.getD k []).length≤200000:=fun k=>by
  rw [List.getD_eq_getElem?_getD]
  cases h:S[k]? with
  | none=>simp
  | some y =>
   have hm:=List.mem_of_getElem? h
   rw [hS] at hm
   simp at hm
   rcases hm with rfl | rfl | rfl | rfl | rfl
   ·show y.length≤_;omega
   ·show (textsT l 3).length≤_;omega
   ·show (markN l 4 0).length≤_;omega
   ·show (markB (numTT n)).length≤_;omega
   ·simp;omega
 clear hS hb hx
 generalize textsT l 3=s1 at *
 generalize markN l 4 0=s2 at *
 generalize markB (numTT n)=s3 at *
 generalize markB t=s4 at *
 generalize toK (tmM l 4 0).1=y at *
 refine zg [(5,{cs:=[(2,pc c1),(4,pc c2),(5,pc c3),(7,pc c4)],fm:=[(11,.c (.sl 1 5 (strsF S)))]}),(1,{cs:=[(0,pc ck)]}),(3,{cs:=[(1,pc cf)]})] [false,false] [(!true)=false,(bif decide (fw<(0:Int)) then true else decide ((s.length:Int)>(300:Int)))=false,1+s.length≤9223372036854775807,([(126:UInt8)]++s).length+(1:Nat)≤(9223372036854775807:Nat),EqvI (.c (.sl 1 (5:Nat) fun i j=>nthD [.str s,.str s1,.str s2,.str s3,.str ([(126:UInt8)]++s++[(126:UInt8)])] (i*(1:Nat)+j))) (.c (.sl 1 (5:Nat) (strsF S))),EqvD (.c (.sl 1 (5:Nat) fun i j=>nthD [.str s,.str s1,.str s2,.str s3,.str ([(126:UInt8)]++s++[(126:UInt8)])] (i*(1:Nat)+j))) (.c (.sl 1 (5:Nat) (strsF S)))] ⟨rfl,sO,oM,sO,fun _ _=>trivial,(show EqvD (.c (.sl (1:Nat) (5:Nat) fun i j=>nthD [.str s,.str s1,.str s2,.str s3,.str ([(126:UInt8)]++s++[(126:UInt8)])] (i*(1:Nat)+j))) (.c (.sl (1:Nat) (5:Nat) (strsF S))) from aS)⟩ ?_
 refine zl (fun (k:Nat)=>⟨[(1,.v (.c (.sl 1 l.length (intsF l)))),(3,.v (.c (.int .i64 n))),(4,.v (.c (.ptr 0 0))),(9,.v (.c (.sl 1 5 (strsF S)))),(10,.v (.c (.int .i64 (k:Int))))],[(0,.box 64 (encK x))],416⟩) (fun k=>k≤5) (fun k=>5-k) 0 (Nat.zero_le _) ?_
 rintro k W hk again
 have hk:k≤5:=hk
 by_cases hi:k<5
 ·have hib:decide ((k:Int)<5)=true:=by simp;omega
  have hnk:=hn k
  have r1:=readC2_ok (G:=Gn m) (S.getD k []) oM
  have r2:=read92_ok (G:=Gn m) (S.getD k []) oM
  have r3:=numC_ok (G:=Gn m) (S.getD k []) oM
  have r4:=num9_ok (G:=Gn m) (S.getD k []) oM
  obtain ⟨nn,bb,hnb⟩:=numR_two (S.getD k [])
  rw [hnb] at r3 r4
  have rS:=same1_ok (G:=Gn m) (readK (S.getD k [])) (readK (S.getD k [])) (readTT_low (S.getD k [])) (readTT_low (S.getD k [])) (readTT_rep (S.getD k [])) (readTT_rep (S.getD k []))
  rw [cmpT_self] at rS
  have rS:Pur Tryz.prog (Gn m) 35 [.agg (encK (readK (S.getD k []))),.agg (encK (readK (S.getD k [])))] [.c (.bool true)]:=rS
  clear hnb
  generalize readK (S.getD k [])=z at *
  generalize (readT (S.getD k [])).isSome=ok at *
  have hbb:(ok != ok)=false:=by simp
  have hbc:(bb != bb)=false:=by simp
  have hnc:(nn != nn)=false:=by simp
  refine zg [(9,{cs:=[(4,pc r1)]}),(10,{cs:=[(4,pc r2)]}),(11,{cs:=[(4,pc r3)]}),(12,{cs:=[(4,pc r4)]}),(13,{cs:=[(2,pc rS)]})] [true,false] [decide ((k:Int)<(↑(5:Nat):Int))=true,(0:Int)≤(k:Int)∧(k:Int)<(↑(5:Nat):Int),(0:Int)≤(k:Int)∧(k:Int)<(↑(5:Nat):Int),(0:Int)≤(k:Int)∧(k:Int)<(↑(5:Nat):Int),(0:Int)≤(k:Int)∧(k:Int)<(↑(5:Nat):Int),(bif bif bif !true then true else !ok==ok then true else nn != nn then true else !bb==bb)=false,inR .i64 ((k:Int)+1)] ⟨aS,oM,oM,oM,oM,(by simp;done),i6⟩ ?_
  exact za [] (again _ (k+1) aS oM)
 ·have hib:decide ((k:Int)<5)=false:=by simp;omega
  have h4:(s4==s4)=true:=by simp
  have h2:(s2==s2)=true:=by simp
  have h3:(s3==s3)=true:=by simp
  clear again
  refine zg [(15,{cs:=[(1,pc cR),(3,pc cR9),(7,pc c2),(8,pc c3b),(10,pc c2),(11,pc c3),(16,pc c4b),(18,pc c4)]})] [false] [decide ((k:Int)<(↑(5:Nat):Int))=false] (oN aS) ?_
  exact zS [.c (.bool (bif bif s4==s4 then s2==s2 else false then s3==s3 else false))] (by simp;done)
end Go.Proofs.Tw
end
section
open Go Go.Sv Go.RowKit Go.ChangeShapes Go.WideShapes
namespace Go.Proofs.Tw
set_option maxRecDepth 100000
set_option maxHeartbeats 4000000
theorem cells_plain {W:World} {base n:Nat} {a:Addr} {vl:List Value} (h:W.cells? base a n=some vl) (hn:0<n):a.spot=none:=by
 unfold World.cells? at h
 split at h
 ·obtain ⟨h1,h2⟩:=mapM_get h
  rw [List.length_range] at h1
  have h3:=h2 0 0 (by simp [hn])
  have h4:vl[0]?=some vl[0]:=List.getElem?_eq_getElem (by omega)
  rw [h4] at h3
  unfold World.cell? at h3
  cases hs:a.spot with
  | none=>rfl
  | some sp =>
   have:(a.add 0).spot=some sp:=hs
   simp [this] at h3
   split at h3<;>simp at h3
 ·cases h
theorem one_get {cs:List Value} {o:Nat} {v:Value} (h:(cs.drop o).take 1=[v]):cs[o]?=some v:=by
 have:=congrArg (fun l=>l[0]?) h
 simpa using this
theorem term_trod {H:Type} {enc:TypeId×Value→H} {W:World} {base:Nat} {sp:Nat→Bool} {held:Bool} (hsp:∀ b,sp b=true):∀ (N fuel:Nat),fuel≤N→∀ (cs:List Value) (d:DataW H×List MemPlace),DataW.trod enc Tryz.prog W base sp held fuel 64 cs=some d →
  ∃ (t:TT) (x:KT),Rep t x∧BigR t∧∀ (j:Nat) (c:Cell),(encK x)[j]?=some c→∃ u,cs[j]?=some u∧Den (Dw W) rho0 c u
 | 0,fuel,hN,cs,d,h=>by
  obtain rfl:fuel=0:=by omega
  simp [DataW.trod] at h
 | N+1,fuel,hN,cs,d,h=>by
  have hS:Tryz.prog.underlying 64=some (.struct #[⟨"Kind",3,0,false, "", "",0⟩,⟨"N",3,1,false, "", "",8⟩,⟨"S",9,2,false, "", "",16⟩,⟨"Kids",62,3,false, "", "",32⟩]):=by kernel_rfl
  obtain ⟨xs,n,hn,_,hl,hlen,hfs⟩:=DataW.trod_struct hS h
  have hc1:Tryz.prog.cellsOf 3=1:=by kernel_rfl
  have hc2:Tryz.prog.cellsOf 9=1:=by kernel_rfl
  have hc3:Tryz.prog.cellsOf 62=1:=by kernel_rfl
  have hc4:Tryz.prog.cellsOf 64=4:=by kernel_rfl
  have get:∀ i (f:Field),(#[⟨"Kind",3,0,false, "", "",0⟩,⟨"N",3,1,false, "", "",8⟩,⟨"S",9,2,false, "", "",16⟩,⟨"Kids",62,3,false, "", "",32⟩]:Array Field)[i]?=some f→i<4→∃ y,DataW.trod enc Tryz.prog W base sp held n f.type ((cs.drop f.offset).take (Tryz.prog.cellsOf f.type))=some y:=fun i f hf hi=>by
   have hlen:xs.length=4:=hlen
   exact ⟨xs[i],(hfs i f hf).trans (List.getElem?_eq_getElem (by omega))⟩
  obtain ⟨y0,k0⟩:=get 0 _ rfl (by omega)
  obtain ⟨y1,k1⟩:=get 1 _ rfl (by omega)
  obtain ⟨y2,k2⟩:=get 2 _ rfl (by omega)
  obtain ⟨y3,k3⟩:=get 3 _ rfl (by omega)
  have k0:DataW.trod enc Tryz.prog W base sp held n 3 ((cs.drop 0).take (Tryz.prog.cellsOf 3))=some y0:=k0
  have k1:DataW.trod enc Tryz.prog W base sp held n 3 ((cs.drop 1).take (Tryz.prog.cellsOf 3))=some y1:=k1
  have k2:DataW.trod enc Tryz.prog W base sp held n 9 ((cs.drop 2).take (Tryz.prog.cellsOf 9))=some y2:=k2
  have k3:DataW.trod enc Tryz.prog W base sp held n 62 ((cs.drop 3).take (Tryz.prog.cellsOf 62))=some y3:=k3
  rw [hc1] at k0 k1
  rw [hc2] at k2
  rw [hc3] at k3
  obtain ⟨z0,e0,_⟩:=DataW.trod_int (k := .i64) (by kernel_rfl) k0
  obtain ⟨z1,e1,_⟩:=DataW.trod_int (k := .i64) (by kernel_rfl) k1
  obtain ⟨s,e2,_⟩:=DataW.trod_string (by kernel_rfl) k2
  have hsl:Tryz.prog.underlying 62=some (.slice 64):=by kernel_rfl
  have g0:=one_get e0
  have g1:=one_get e1
  have g2:=one_get e2
  have fin:∀ (t:TT) (x:KT) (v:Value),x.k=z0→x.n=z1→x.s=s.data.toList→cs[3]?=some v→Den (Dw W) rho0 (.sl 4 x.m x.f) v→∀ (j:Nat) (c:Cell),(encK x)[j]?=some c→∃ u,cs[j]?=some u∧Den (Dw W) rho0 c u:=by
   intro t x v h0 h1 h2 h3 hd j c hj
   match j,hj with
   | 0,hj=>cases hj; exact ⟨_,g0,by rw [h0]; rfl⟩
   | 1,hj=>cases hj; exact ⟨_,g1,by rw [h1]; rfl⟩
   | 2,hj=>cases hj; exact ⟨_,g2,by rw [h2]; cases s; simp [Den]⟩
   | 3,hj=>cases hj; exact ⟨_,h3,hd⟩
   | _+4,hj=>cases hj
  rcases DataW.trod_slice hsl k3 with ⟨e3,_⟩ | ⟨a,len,cap,elems,rest,m,hm,e3,_,_,hlc,hmx,hel,hel2,hr1,_⟩
  ·refine ⟨.mk z0 z1 s.data.toList [],⟨z0,z1,s.data.toList,0,fun _ _ => .nilif⟩,by rw [Rep];exact ⟨rfl,rfl,rfl,rfl,by rw [RepL];trivial⟩,.mk (by show 0≤_;omega) (fun x h=>by cases h),fin (.mk z0 z1 s.data.toList []) _ _ rfl rfl rfl (one_get e3) ⟨none,0,rfl,Nat.le_refl _,Nat.zero_le _,.inl rfl⟩⟩
  ·have hrest:=hr1 (hsp _)
   by_cases hcap:cap=0
   ·obtain rfl:len=0:=by omega
    refine ⟨.mk z0 z1 s.data.toList [],⟨z0,z1,s.data.toList,0,fun _ _ => .nilif⟩,by rw [Rep];exact ⟨rfl,rfl,rfl,rfl,by rw [RepL];trivial⟩,.mk (by show 0≤_;omega) (fun x h=>by cases h),fin (.mk z0 z1 s.data.toList []) _ _ rfl rfl rfl (one_get e3) ⟨some a,cap,rfl,hlc,hmx,.inl hcap⟩⟩
   have hspot:a.spot=none:=by
    rcases Nat.eq_zero_or_pos len with h0 | h0
    ·subst h0
     have h1:=hrest.2 0 (by omega)
     rw [List.getElem?_eq_getElem (by omega),Option.bind_eq_some_iff] at h1
     obtain ⟨vl,hvl,_⟩:=h1
     have:=cells_plain hvl (by rw [hc4];omega)
     exact this
    ·have h1:=hel2 0 h0
     rw [List.getElem?_eq_getElem (by omega),Option.bind_eq_some_iff] at h1
     obtain ⟨vl,hvl,_⟩:=h1
     have:=cells_plain hvl (by rw [hc4];omega)
     exact this
   obtain ⟨b,o,spot⟩:=a
   obtain rfl:spot=none:=hspot
   have key:∀ i,i<len→∃ p:TT×KT,Rep p.1 p.2∧BigR p.1∧∀ j,j<4→∃ u,W.cell? ⟨b,o+i*4+j,none⟩=some u∧Den (Dw W) rho0 (nthD (encK p.2) j) u:=by
    intro i hi
    have h1:=hel2 i hi
    rw [List.getElem?_eq_getElem (by omega),Option.bind_eq_some_iff] at h1
    obtain ⟨vl,hvl,hx⟩:=h1
    rw [hc4,Go.WideShapes.add_plain] at hvl
    obtain ⟨hl1,hl2⟩:=cells_get hvl
    obtain ⟨t,x,r1,r2,r3⟩:=term_trod hsp N m (by omega) vl _ hx
    refine ⟨(t,x),r1,r2,fun j hj => ?_⟩
    have hjc:(encK x)[j]?=some (nthD (encK x) j):=by
     match j,hj with
     | 0,_=>rfl
     | 1,_=>rfl
     | 2,_=>rfl
     | 3,_=>rfl
    obtain ⟨u,hu,hd⟩:=r3 j _ hjc
    exact ⟨u,by rw [hl2 j hj];exact hu,hd⟩
   obtain ⟨l,hll,hq⟩:=list_of (d:=(TT.nil,KT.nil)) len key
   have hsnd:∀ i,(l.map Prod.snd).getD i .nil=(l.getD i (.nil,.nil)).2:=snd_at l
   have hfst:∀ i,(l.map Prod.fst).getD i .nil=(l.getD i (.nil,.nil)).1:=fun i=>by
    rw [List.getD_eq_getElem?_getD,List.getElem?_map,List.getD_eq_getElem?_getD];cases l[i]?<;>rfl
   refine ⟨.mk z0 z1 s.data.toList (l.map Prod.fst),⟨z0,z1,s.data.toList,len,rowF encK .nil (l.map Prod.snd)⟩,?_,?_,fin (.mk z0 z1 s.data.toList []) _ _ rfl rfl rfl (one_get e3) ⟨some ⟨b,o,none⟩,cap,rfl,hlc,hmx,.inr ⟨b,o,rfl,fun i hi j hj => ?_⟩⟩⟩
   ·rw [Rep]
    refine ⟨rfl,rfl,rfl,by simp [hll],RepL_of fun i hi => ?_⟩
    rw [List.length_map,hll] at hi
    refine ⟨(l.getD i (.nil,.nil)).2,?_,by rw [hfst];exact (hq i hi).1⟩
    rw [Nat.zero_add]
    show [nthD (encK ((l.map Prod.snd).getD i .nil)) 0,nthD (encK ((l.map Prod.snd).getD i .nil)) 1,nthD (encK ((l.map Prod.snd).getD i .nil)) 2,nthD (encK ((l.map Prod.snd).getD i .nil)) 3]=_
    rw [hsnd]
    rfl
   ·refine .mk (by show (l.map Prod.fst).length≤_;rw [List.length_map,hll];unfold maxLen at hmx;omega) (fun x hx => ?_)
    obtain ⟨p,hp,rfl⟩:=List.mem_map.1 hx
    obtain ⟨i,hi,rfl⟩:=List.getElem_of_mem hp
    have:=(hq i (by omega)).2.1
    rw [List.getD_eq_getElem?_getD,List.getElem?_eq_getElem hi] at this
    exact this
   ·obtain ⟨u,hu,hd⟩:=(hq i hi).2.2 j hj
    refine ⟨u,hu,?_⟩
    show Den (Dw W) rho0 (nthD (encK ((l.map Prod.snd).getD i .nil)) j) u
    rw [hsnd]
    exact hd
theorem term_den {H:Type} {enc:TypeId×Value→H} {W:World} {base0:Nat} {v:Value} {d:DataW H} {p:List MemPlace} (hok:Value.okWide Tryz.prog W .any base0 64 v) (h:DataW.Trod enc Tryz.prog W 0 (fun _=>true) true 64 v d p) :
  ∃ (t:TT) (x:KT),Rep t x∧BigR t∧DenV (Dw W) rho0 (.agg (encK x)) v:=by
 obtain ⟨us,rfl,hus,_⟩:=okWide_cells (ts:=[3,3,9,62]) (show Tryz.prog.underlying 64=some (.struct #[⟨"Kind",3,0,false, "", "",0⟩,⟨"N",3,1,false, "", "",8⟩,⟨"S",9,2,false, "", "",16⟩,⟨"Kids",62,3,false, "", "",32⟩]) by kernel_rfl) (by kernel_rfl) (by kernel_rfl) hok
 obtain ⟨fuel,hf⟩:=h
 obtain ⟨t,x,h1,h2,h3⟩:=term_trod (fun _=>rfl) fuel fuel (Nat.le_refl _) _ _ hf
 refine ⟨t,x,h1,h2,us,rfl,hus,fun j c hj => ?_⟩
 obtain ⟨u,hu,hd⟩:=h3 j c hj
 exact ⟨u,by simpa [Value.cells] using hu,hd⟩
end Go.Proofs.Tw
end
section
open Go Go.Sv Go.RowKit
namespace Go.Proofs.Tw
attribute [local irreducible] Wp FinQ resV Ent Pur Go.Sv.Fn Sat0
set_option maxRecDepth 100000
set_option maxHeartbeats 4000000
variable {G:Nat→Option (List Cell)} [Back G]
def eightT:List (List UInt8):=[[97],[98,32],[46],[38],[61],[47],[34],[37,32]]
def NoneS (s:List UInt8):Prop:=(126:UInt8)∉s∧∀ r,(runsF (s++r) []).flatMap tellT=(runsF r []).flatMap tellT
theorem NoneS.app {s t:List UInt8} (hs:NoneS s) (ht:NoneS t):NoneS (s++t):=by
 refine ⟨fun h => ?_,fun r => ?_⟩
 ·rcases List.mem_append.1 h with h | h
  ·exact hs.1 h
  ·exact ht.1 h
 ·rw [List.append_assoc,hs.2,ht.2]
theorem NoneS.nil:NoneS []:=⟨by simp,fun r=>rfl⟩
theorem tell_a:tellT [97]=[]:=by kernel_rfl
theorem tell_b:tellT [98]=[]:=by kernel_rfl
theorem none_skip (x:List UInt8) (h:x.all (fun c => !sgB c&&c != 126)=true):NoneS x:=by
 refine ⟨fun hm => ?_,fun r => ?_⟩
 ·have:=List.all_eq_true.1 h _ hm
  simp at this
 ·rw [runsF_skip x r (fun c hc=>by have:=List.all_eq_true.1 h c hc;simp at this;exact this.1)]
theorem none_one (c:UInt8) (x:List UInt8) (hc:sgB c=true) (h1:tellT [c]=[]) (hx:x≠[]) (h:x.all (fun c => !sgB c&&c != 126)=true):NoneS (c::x):=by
 have hs:=none_skip x h
 refine ⟨fun hm => ?_,fun r => ?_⟩
 ·rcases List.mem_cons.1 hm with e | hm
  ·rw [← e,tilde_no] at hc;cases hc
  ·exact hs.1 hm
 ·rw [List.cons_append,runsF,if_pos hc,runsF_gap x r _ hx (fun c hc=>by have:=List.all_eq_true.1 h c hc;simp at this;exact this.1),List.flatMap_append,tell_close]
  show tellT [c]++_=_
  rw [h1,List.nil_append]
theorem eight_none (i:Nat):NoneS (eightT.getD i []++[46]):=by
 rw [List.getD_eq_getElem?_getD]
 cases h:eightT[i]? with
 | none=>exact none_skip [46] kR
 | some x =>
  have hm:=List.mem_of_getElem? h
  unfold eightT at hm
  simp only [List.mem_cons,List.not_mem_nil,or_false] at hm
  show NoneS (x++[46])
  rcases hm with rfl | rfl | rfl | rfl | rfl | rfl | rfl | rfl
  ·exact none_one 97 [46] kR tell_a (by simp) kR
  ·exact none_one 98 [32,46] kR tell_b (by simp) kR
  ·exact none_skip _ kR
  ·exact none_skip _ kR
  ·exact none_skip _ kR
  ·exact none_skip _ kR
  ·exact none_skip _ kR
  ·exact none_skip _ kR
theorem eight_le (i:Nat):(eightT.getD i []).length≤2:=by
 rw [List.getD_eq_getElem?_getD]
 cases h:eightT[i]? with
 | none=>simp
 | some x =>
  have hm:=List.mem_of_getElem? h
  have:∀ x∈eightT,x.length≤2:=by decide
  exact this x hm
theorem none_all {s:List UInt8} (h:NoneS s):allM s=[]:=by
 unfold allM plainT
 rw [partsT_cuts,cuts_no 126 s [] h.1]
 have:=h.2 []
 rw [List.append_nil] at this
 rw [this]
 rfl
theorem none_two {s:List UInt8} (h:NoneS s):allM (s++[126]++s)=[]:=by
 unfold allM plainT
 have e:s++[126]++s=s++126::s:=by simp
 rw [partsT_cuts,e,cuts_at 126 s s [] h.1,cuts_no 126 s [] h.1,h.2,runsF_no tilde_no]
 have:=h.2 []
 rw [List.append_nil] at this
 rw [List.flatMap_append,this]
 rfl
theorem fst1_none {s:List UInt8} (h:allM s=[]):fst1 s=[]:=by unfold fst1 findP;rw [h];rfl
def noneI (l:List Int):Nat→Nat×List UInt8
 | 0=>(0,[])
 | i+1=>if (noneI l i).1<l.length then (nextA l (noneI l i).1 8,(noneI l i).2++eightT.getD (nextV l (noneI l i).1 8).toNat []++[46]) else noneI l i
theorem none_ok (l:List Int):∀ i,NoneS (noneI l i).2
 | 0=>NoneS.nil
 | i+1=>by
  rw [noneI];split
  ·show NoneS ((noneI l i).2++_++[46])
   rw [List.append_assoc]
   exact (none_ok l i).app (eight_none _)
  ·exact none_ok l i
theorem none_len (l:List Int):∀ i,(noneI l i).2.length≤3*i
 | 0=>Nat.le_refl _
 | i+1=>by
  have:=none_len l i
  rw [noneI];split
  ·have h:=eight_le (nextV l (noneI l i).1 8).toNat
   show ((noneI l i).2++_++[46]).length≤_
   rw [List.length_append,List.length_append,List.length_singleton];omega
  ·omega
theorem mark_same (l m:List Int):(markN l 4 0==markN m 4 0)=(cmpT (toT (tmM l 4 0).1) (toT (tmM m 4 0).1)==0):=by
 rw [Bool.eq_iff_iff,beq_iff_eq,beq_iff_eq,cmpT_iff]
 exact ⟨mark_inj (tmM_may l 4 0 oM) (tmM_may m 4 0 oM),fun h=>by unfold markN;rw [h]⟩
theorem markNone_ok {m:Int} (l l2:List Int) (hl:l.length≤9223372036854775807) (hl2:l2.length≤9223372036854775807):Pur Tryz.prog (Gn m) 7 [.c (.sl 1 l.length (intsF l)),.c (.sl 1 l2.length (intsF l2))] [.c (.bool true)]:=by
 have hG:Gn m 1=some [.int .i64 m]:=rfl
 refine zp Tryz.func7 ?_
 have ck:=known9_ok hG
 refine zg [(1,{cs:=[(0,pc ck)]})] [false] [(!true)=false] rfl ?_
 refine zl (fun (x:Nat×Nat×List UInt8)=>⟨[(0,.v (.c (.sl 1 l.length (intsF l)))),(1,.v (.c (.sl 1 l2.length (intsF l2)))),(5,.v (.c (.ptr 80 0))),(6,.v (.c (.str x.2.2))),(7,.v (.c (.int .i64 (x.1:Int))))],[(80,tapeB l x.2.1)],144⟩) (fun x=>x.1≤30∧x.2=noneI l x.1) (fun x=>30-x.1) (0,0,[]) ⟨Nat.zero_le _,rfl⟩ ?_
 rintro ⟨i,a,s⟩ W ⟨hi,hx⟩ again
 have hi:i≤30:=hi
 have hx:(a,s)=noneI l i:=hx
 have hsn:=none_len l i
 have hsN:=none_ok l i
 rw [← hx] at hsn hsN
 have hsn:s.length≤3*i:=hsn
 have hsN:NoneS s:=hsN
 have cm:=more1_ok (G:=Gn m) l a
 by_cases hgo:i<30∧a<l.length
 ·have hib:decide ((i:Int)<30)=true:=by simp;omega
  have hab:decide (a<l.length)=true:=decide_eq_true hgo.2
  rw [hab] at cm
  have cp:=pick_ok (G:=Gn m) eightT l a oM dC
  have cp:FnB Tryz.prog (Gn m) 43 [tapeB l a] [.c (.ptr 0 0),.c (.sl 1 8 (strsF eightT))] [.c (.str (eightT.getD (nextV l a 8).toNat []))] [(0,tapeB l (nextA l a 8))]:=cp
  have e8:EqvD (.c (.sl 1 8 (fun i j=>nthD [.str [97],.str [98,32],.str [46],.str [38],.str [61],.str [47],.str [34],.str [37,32]] (i*1+j)))) (.c (.sl 1 8 (strsF eightT))):=lit_D kR
  have hq:i+1≤30∧(nextA l a 8,s++eightT.getD (nextV l a 8).toNat []++[46])=noneI l (i+1):=⟨hgo.1,by rw [noneI,← hx];show _=if a<l.length then _ else _;rw [if_pos hgo.2]⟩
  have hpl:=eight_le (nextV l a 8).toNat
  have hgl:=hgo.1
  clear hx hgo hsN
  generalize eightT.getD (nextV l a 8).toNat []=z at *
  generalize nextA l a 8=a3 at *
  refine zg [(8,{cs:=[(3,cb [80] cp)],fm:=[(2,.c (.sl 1 8 (strsF eightT)))]}),(6,{grd:=[(3,true),(4,true)],cs:=[(4,cb [80] cm)]})] [true] [decide ((i:Int)<30)=true,decide ((i:Int)<30)=true,(bif decide ((i:Int)<(30:Int)) then true else false)=true,EqvI (.c (.sl 1 (8:Nat) fun i j=>nthD [.str [(97:UInt8)],.str [(98:UInt8),32],.str [(46:UInt8)],.str [(38:UInt8)],.str [(61:UInt8)],.str [(47:UInt8)],.str [(34:UInt8)],.str [(37:UInt8),32]] (i*(1:Nat)+j))) (.c (.sl 1 (8:Nat) (strsF eightT))),EqvD (.c (.sl 1 (8:Nat) fun i j=>nthD [.str [(97:UInt8)],.str [(98:UInt8),32],.str [(46:UInt8)],.str [(38:UInt8)],.str [(61:UInt8)],.str [(47:UInt8)],.str [(34:UInt8)],.str [(37:UInt8),32]] (i*(1:Nat)+j))) (.c (.sl 1 (8:Nat) (strsF eightT))),s.length+z.length≤9223372036854775807,(s++z).length+1≤9223372036854775807,inR .i64 ((i:Int)+1)] ⟨aS,aS,sO,fun _ _=>trivial,aS,oM,sO,i6⟩ ?_
  exact za [] (again _ (i+1,a3,s++z++[46]) oM oM)
 ·have cA:=one1_ok (G:=Gn m) l hl
  have cB:=one1_ok (G:=Gn m) l2 hl2
  have tA:=textT_ok (G:=Gn m) (low_toT (tmM l 4 0).1) (toK (tmM l 4 0).1) (Rep_toK (tmM l 4 0).1)
  have tB:=textT_ok (G:=Gn m) (low_toT (tmM l2 4 0).1) (toK (tmM l2 4 0).1) (Rep_toK (tmM l2 4 0).1)
  have tA:Pur Tryz.prog (Gn m) 36 [.agg (encK (toK (tmM l 4 0).1))] [.c (.str (markN l 4 0))]:=tA
  have tB:Pur Tryz.prog (Gn m) 36 [.agg (encK (toK (tmM l2 4 0).1))] [.c (.str (markN l2 4 0))]:=tB
  have cS:=same1_ok (G:=Gn m) (toK (tmM l 4 0).1) (toK (tmM l2 4 0).1) (low_toT (tmM l 4 0).1) (low_toT (tmM l2 4 0).1) (Rep_toK (tmM l 4 0).1) (Rep_toK (tmM l2 4 0).1)
  have hSm:=mark_same l l2
  have f1:=find_ok (G:=Gn m) hG s oM
  have f2:=find_ok (G:=Gn m) hG (s++[126]++s) sO
  unfold rowF1 at f1 f2
  rw [fst1_none (none_all hsN)] at f1
  rw [fst1_none (none_two hsN)] at f2
  have f1:Pur Tryz.prog (Gn m) 39 [.c (.str s)] [.c (.sl 4 0 (rowF encK .nil []))]:=f1
  have f2:Pur Tryz.prog (Gn m) 39 [.c (.str (s++[126]++s))] [.c (.sl 4 0 (rowF encK .nil []))]:=f2
  generalize (cmpT (toT (tmM l 4 0).1) (toT (tmM l2 4 0).1)==0)=b at *
  generalize markN l 4 0=mA at *
  generalize markN l2 4 0=mB at *
  generalize toK (tmM l 4 0).1=yA at *
  generalize toK (tmM l2 4 0).1=yB at *
  clear hx hsN again
  by_cases hi2:i<30
  ·have hib:decide ((i:Int)<30)=true:=by simp;omega
   have hab:decide (a<l.length)=false:=decide_eq_false (fun h=>hgo ⟨hi2,h⟩)
   rw [hab] at cm
   clear hgo
   refine zg [(6,{grd:=[(3,true),(4,true)],cs:=[(4,cb [80] cm)]}),(9,{cs:=[(1,pc cA),(3,pc cB)]}),(10,{cs:=[(1,pc f1),(6,pc tA),(8,pc tB),(12,pc cS),(20,pc f2)]})] [false] [decide ((i:Int)<30)=true,decide ((i:Int)<30)=true,(bif decide ((i:Int)<(30:Int)) then false else false)=false,(bif (↑(0:Nat):Int)==(0:Int) then (mA==mB)==b else false)=true→s.length+(1:Nat)≤(9223372036854775807:Nat),(bif (↑(0:Nat):Int)==(0:Int) then (mA==mB)==b else false)=true→(s++[(126:UInt8)]).length+s.length≤(9223372036854775807:Nat)] ⟨aS,aS,(by simp;done),oM,(show (bif (↑(0:Nat):Int)==(0:Int) then (mA==mB)==b else false)=true→(s++[(126:UInt8)]).length+s.length≤(9223372036854775807:Nat) from sO)⟩ ?_
   exact zS [.c (.bool (bif bif (↑(0:Nat):Int)==(0:Int) then (mA==mB)==b else false then (↑(0:Nat):Int)==(0:Int) else false))] (by simp [*];done)
  ·have hib:decide ((i:Int)<30)=false:=by simp;omega
   clear hgo cm
   refine zg [(6,{grd:=[(3,false),(4,false),(5,false)]}),(9,{cs:=[(1,pc cA),(3,pc cB)]}),(10,{cs:=[(1,pc f1),(6,pc tA),(8,pc tB),(12,pc cS),(20,pc f2)]})] [false] [decide ((i:Int)<30) = !true,decide ((i:Int)<30) = !true,decide ((i:Int)<30)=false,false=false,(bif (↑(0:Nat):Int)==(0:Int) then (mA==mB)==b else false)=true→s.length+(1:Nat)≤(9223372036854775807:Nat),(bif (↑(0:Nat):Int)==(0:Int) then (mA==mB)==b else false)=true→(s++[(126:UInt8)]).length+s.length≤(9223372036854775807:Nat)] ⟨aS,aS,aS,rfl,oM,(show (bif (↑(0:Nat):Int)==(0:Int) then (mA==mB)==b else false)=true→(s++[(126:UInt8)]).length+s.length≤(9223372036854775807:Nat) from sO)⟩ ?_
   exact zS [.c (.bool (bif bif (↑(0:Nat):Int)==(0:Int) then (mA==mB)==b else false then (↑(0:Nat):Int)==(0:Int) else false))] (by simp [*];done)
end Go.Proofs.Tw
end

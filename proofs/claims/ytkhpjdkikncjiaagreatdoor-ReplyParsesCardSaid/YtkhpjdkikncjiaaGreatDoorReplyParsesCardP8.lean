/- Own texts for this claim: G12, Law, All, Rp2, Rp3, SvKeep, SvRead. -/
import Derived.Test.YtkhpjdkikncjiaaGreatDoorReplyParsesCardP3
import Derived.Test.YtkhpjdkikncjiaaGreatDoorReplyParsesCardP5
import Derived.Test.YtkhpjdkikncjiaaGreatDoorReplyParsesCardP6
import Derived.Test.YtkhpjdkikncjiaaGreatDoorReplyParsesCardP7
import Derived.ChangeSlices
set_option linter.all false
section
open Go Go.Sv Go.RowKit
namespace Go.Proofs.Tw
attribute [local irreducible] Wp FinQ resV Ent Pur Go.Sv.Fn Sat0
set_option maxRecDepth 100000
set_option maxHeartbeats 4000000
variable {G:Nat→Option (List Cell)}
def getF (v:JV) (n:List UInt8) (k:Nat):Option JV:=(((v.names.zip v.kids).drop k).find? fun p=>p.1==n).map (·.2)
def getJ (v:JV) (n:List UInt8):Option JV:=if v.kind==6 then getF v n 0 else none
def getT (v:JV) (n:List UInt8):Option (List UInt8):=(getJ v n).bind fun x=>if x.kind==4 then some x.s else none
theorem getF_step (v:JV) (n:List UInt8) (k:Nat) (h1:k<v.names.length) (h2:k<v.kids.length):getF v n k=if v.names.getD k []==n then some (v.kids.getD k .nil) else getF v n (k+1):=by
 unfold getF
 have hk:k<(v.names.zip v.kids).length:=by rw [List.length_zip];omega
 rw [List.drop_eq_getElem_cons hk,List.find?_cons,List.getElem_zip]
 simp only [List.getD,List.getElem?_eq_getElem h1,List.getElem?_eq_getElem h2,Option.getD_some]
 cases v.names[k]==n<;>rfl
theorem getF_end (v:JV) (n:List UInt8) (k:Nat) (h:v.names.length≤k∨v.kids.length≤k):getF v n k=none:=by
 unfold getF
 rw [List.drop_eq_nil_of_le (by rw [List.length_zip];omega)]
 rfl
theorem nilJ_den:EqvD (.agg [.int .i64 0,.bool false,.int .i64 0,.str [],.nilsl,.nilsl]) (.agg (encJ .nil)) :=
 agg_eqv (.cons CEq.rfl' (.cons CEq.rfl' (.cons CEq.rfl' (.cons CEq.rfl' (.cons CEq.nil (.cons CEq.nil .nil))))))
theorem get12_ok (v:JV) (n:List UInt8) (h1:v.names.length<4611686018427387904) (h2:v.kids.length<4611686018427387904) :
  Pur Tryz.prog G 77 [.agg (encJ v),.c (.str n)] [.agg (encJ ((getJ v n).getD .nil)),.c (.bool (getJ v n).isSome)]:=by
 refine zp Tryz.func77 ?_
 refine z0 [] [] ?_
 refine zl (fun (k:Nat)=>⟨[(1,.v (.c (.str n))),(2,.v (.c (.ptr 0 0))),(4,.v (.c (.ptr 16 0))),(6,.v (.c (.int .i64 (k:Int))))],[(0,.box 30 (encJ v)),(16,.box 30 [.int .i64 (0:Int),.bool false,.int .i64 (0:Int),.str [],.nilsl,.nilsl])],64⟩) (fun k=>k≤v.names.length∧k≤v.kids.length∧getF v n 0=getF v n k) (fun k=>v.names.length-k) 0 ⟨Nat.zero_le _,Nat.zero_le _,rfl⟩ ?_
 intro k L ⟨hk,hk2,hq⟩ again
 have e0:=nilJ_den
 by_cases h6:v.kind=6
 ·have hJ:getJ v n=getF v n k:=by unfold getJ;rw [if_pos (by rw [h6];rfl),hq]
  rcases Nat.lt_or_ge k v.names.length with hlt | hge
  ·rcases Nat.lt_or_ge k v.kids.length with hlt2 | hge2
   ·have e1:=kid_den hlt2
    rw [getF_step v n k hlt hlt2] at hJ hq
    cases hn:v.names.getD k []==n with
    | true =>
     rw [hn,if_pos rfl] at hJ
     rw [hJ]
     refine zg [(5,{fm:=[(4,.agg (encJ (v.kids.getD k .nil)))]})] [true,true] [(bif bif decide ((k:Int)<(v.names.length:Int)) then decide ((k:Int)<(v.kids.length:Int)) else false then v.kind==(6:Int) else false)=true,(0:Int)≤(k:Int)∧(k:Int)<(v.names.length:Int),(v.names.getD k []==n)=true,(0:Int)≤(k:Int)∧(k:Int)<(v.kids.length:Int),EqvD (.agg [kidC v.kids k 0,kidC v.kids k (0+1),kidC v.kids k (0+1+1),kidC v.kids k (0+1+1+1),kidC v.kids k (0+1+1+1+1),kidC v.kids k (0+1+1+1+1+1)]) (.agg (encJ (v.kids.getD k .nil)))] ⟨sO,oM,aS,oM,(show EqvD (.agg [kidC v.kids k (0:Nat),kidC v.kids k ((0:Nat)+(1:Nat)),kidC v.kids k ((0:Nat)+(1:Nat)+(1:Nat)),kidC v.kids k ((0:Nat)+(1:Nat)+(1:Nat)+(1:Nat)),kidC v.kids k ((0:Nat)+(1:Nat)+(1:Nat)+(1:Nat)+(1:Nat)),kidC v.kids k ((0:Nat)+(1:Nat)+(1:Nat)+(1:Nat)+(1:Nat)+(1:Nat))]) (.agg (encJ (v.kids.getD k .nil))) from aS)⟩ ?_
     exact zr
    | false =>
     rw [hn,if_neg dC] at hq
     clear hJ
     refine zg [] [true,false] [(bif bif decide ((k:Int)<(v.names.length:Int)) then decide ((k:Int)<(v.kids.length:Int)) else false then v.kind==(6:Int) else false)=true,(0:Int)≤(k:Int)∧(k:Int)<(v.names.length:Int),(v.names.getD k []==n)=false,inR .i64 ((k:Int)+1)] ⟨sO,oM,aS,i6⟩ ?_
     exact za [] (again _ (k+1) (⟨aS,⟨aS,aS⟩⟩) oM)
   ·rw [getF_end v n k oM] at hJ
    rw [hJ]
    refine zg [(6,{fm:=[(0,.agg (encJ .nil))]})] [false] [(bif bif decide ((k:Int)<(v.names.length:Int)) then decide ((k:Int)<(v.kids.length:Int)) else false then v.kind==(6:Int) else false)=false,EqvI (.agg [.int .i64 0,.bool false,.int .i64 0,.str [],.nilsl,.nilsl]) (.agg (encJ JV.nil)),EqvD (.agg [.int .i64 0,.bool false,.int .i64 0,.str [],.nilsl,.nilsl]) (.agg (encJ JV.nil))] ⟨sO,eqvI_flat _ _ kR,(show EqvD (.agg [.int .i64 (0:Int),.bool false,.int .i64 (0:Int),.str [],.nilsl,.nilsl]) (.agg (encJ JV.nil)) from aS)⟩ ?_
    exact zr
  ·rw [getF_end v n k oM] at hJ
   rw [hJ]
   refine zg [(6,{fm:=[(0,.agg (encJ .nil))]})] [false] [(bif bif decide ((k:Int)<(v.names.length:Int)) then decide ((k:Int)<(v.kids.length:Int)) else false then v.kind==(6:Int) else false)=false,EqvI (.agg [.int .i64 0,.bool false,.int .i64 0,.str [],.nilsl,.nilsl]) (.agg (encJ JV.nil)),EqvD (.agg [.int .i64 0,.bool false,.int .i64 0,.str [],.nilsl,.nilsl]) (.agg (encJ JV.nil))] ⟨sO,eqvI_flat _ _ kR,(show EqvD (.agg [.int .i64 (0:Int),.bool false,.int .i64 (0:Int),.str [],.nilsl,.nilsl]) (.agg (encJ JV.nil)) from aS)⟩ ?_
   exact zr
 ·have hJ:getJ v n=none:=by unfold getJ;rw [if_neg (by simpa using h6)]
  rw [hJ]
  have hb:(v.kind==6)=false:=by simpa using h6
  refine zg [(6,{fm:=[(0,.agg (encJ .nil))]})] [false] [(bif bif decide ((k:Int)<(v.names.length:Int)) then decide ((k:Int)<(v.kids.length:Int)) else false then v.kind==(6:Int) else false)=false,EqvI (.agg [.int .i64 0,.bool false,.int .i64 0,.str [],.nilsl,.nilsl]) (.agg (encJ JV.nil)),EqvD (.agg [.int .i64 0,.bool false,.int .i64 0,.str [],.nilsl,.nilsl]) (.agg (encJ JV.nil))] ⟨sO,eqvI_flat _ _ kR,(show EqvD (.agg [.int .i64 (0:Int),.bool false,.int .i64 (0:Int),.str [],.nilsl,.nilsl]) (.agg (encJ JV.nil)) from aS)⟩ ?_
  exact zr
theorem text12_ok (v:JV) (n:List UInt8) (h1:v.names.length<4611686018427387904) (h2:v.kids.length<4611686018427387904) :
  Pur Tryz.prog G 23 [.agg (encJ v),.c (.str n)] [.c (.str ((getT v n).getD [])),.c (.bool (getT v n).isSome)]:=by
 refine zp Tryz.func23 ?_
 have c:=get12_ok (G:=G) v n h1 h2
 cases hx:getJ v n with
 | none =>
  have hT:getT v n=none:=by unfold getT;rw [hx];rfl
  rw [hT]
  rw [hx] at c
  simp only [Option.getD_none,Option.isSome_none,Option.getD_some,Option.isSome_some] at c
  refine zg [(1,{cs:=[(2,pc c)]})] [true] [(bif !false then true else JV.nil.kind != (4:Int))=true] rfl ?_
  exact zr
 | some x =>
  rw [hx] at c
  simp only [Option.getD_none,Option.isSome_none,Option.getD_some,Option.isSome_some] at c
  by_cases h4:x.kind=4
  ·have hT:getT v n=some x.s:=by unfold getT;rw [hx,Option.bind_some,if_pos (by rw [h4];rfl)]
   rw [hT]
   refine zg [(1,{cs:=[(2,pc c)]})] [false] [(bif !true then true else x.kind != (4:Int))=false] ((show (bif !true then true else x.kind != (4:Int))=false from sO)) ?_
   exact zr
  ·have hT:getT v n=none:=by unfold getT;rw [hx,Option.bind_some,if_neg (by simpa using h4)]
   rw [hT]
   have hb:(x.kind != 4)=true:=by simpa using h4
   refine zg [(1,{cs:=[(2,pc c)]})] [true] [(bif !true then true else x.kind != (4:Int))=true] ((show (bif !true then true else x.kind != (4:Int))=true from aS)) ?_
   exact zr
end Go.Proofs.Tw
end
section
open Go Go.Sv
namespace Go.Proofs.Tw
attribute [local irreducible] Wp FinQ resV Ent Pur Go.Sv.Fn Sat0
set_option maxRecDepth 100000
def withinT (a n:Int):Int:=if decide (a.tmod n<0) then a.tmod n+n else a.tmod n
theorem within_ok {G:Nat→Option (List Cell)} (a n:Int) (hn:0<n) (hn2:n<1000000):Pur Tryz.prog G 12 [.c (.int .i64 a),.c (.int .i64 n)] [.c (.int .i64 (withinT a n))]:=by
 have h1:=Int.lt_tmod_of_pos a hn
 have h2:=Int.tmod_lt_of_pos a hn
 refine zp Tryz.func12 ?_
 refine zg [] [] [n≠0] (by show n≠0;omega) ?_
 refine zc (decide (a.tmod n<0)) (fun h => ?_) (fun h => ?_)
 ·refine zg [] [] [inR .i64 (a.tmod n+n)] (i6) ?_
  exact zS [.c (.int .i64 (a.tmod n+n))] (by unfold withinT;rw [if_pos h])
 ·refine z0 [] [] ?_
  exact zS [.c (.int .i64 (a.tmod n))] (by unfold withinT;rw [if_neg (by simp [h])])
def objE:JV:=objJ [] []
theorem e_small:Small objE := .mk (by show 0<_;omega) (by show 0<_;omega) (by intro x hx;cases hx)
theorem e_print:printJ objE=[123,125]:=by rw [printJ_eq];rfl
theorem e_fit:Fit objE := .mk (by show 0≤_;omega) (by intro h;exact Nat.le_refl _) (by show _≤(0:Int);omega) (by show (0:Int)≤_;omega) (by rw [e_print];decide) (by intro x hx;cases hx)
def rawO:List Cell:=[.int .i64 6,.bool false,.int .i64 0,.str [],.nilsl,.nilsl]
def knownB:Bool:=cond (cond (cond (cond (cond (wordT 13==[105,110,118,97,108,105,100,95,103,114,97,110,116]) (statT 16==503) false) ((failT 13).status==400) false) ((failT 13).body==[123,34,101,114,114,111,114,34,58,34,105,110,118,97,108,105,100,95,103,114,97,110,116,34,125]) false) ((jsonT objE).body==[123,125]) false) ((docJ [97,115]).kind==6) false
theorem known_true:knownB=true:=by kernel_rfl
theorem known_ok:Pur Tryz.prog Gd 8 [] [.c (.bool true)]:=by
 have q:EqvD (.agg rawO) (.agg (encJ objE)):=agg_eqv (.cons CEq.rfl' (.cons CEq.rfl' (.cons CEq.rfl' (.cons CEq.rfl' (.cons CEq.nil (.cons CEq.nil .nil))))))
 refine zp Tryz.func8 ?_
 refine zg [(1,{cs:=[(0,pc (Fail_ok 13))]}),(2,{fm:=[(17,.agg (encJ objE))],cs:=[(0,pc (Word_ok 13)),(3,pc (Status_ok 16)),(18,pc (Json_ok e_small (fun _=>e_fit))),(23,pc (Doc_ok [97,115] dC))]})] [] [EqvI (.agg rawO) (.agg (encJ objE)),(cond (cond (cond (wordT 13==[105,110,118,97,108,105,100,95,103,114,97,110,116]) (statT 16==503) false) ((failT 13).status==400) false) ((failT 13).body==[123,34,101,114,114,111,114,34,58,34,105,110,118,97,108,105,100,95,103,114,97,110,116,34,125]) false)=true→EqvD (.agg rawO) (.agg (encJ objE))] ⟨EqvI.flatA rfl,fun _=>q⟩ ?_
 exact zS [.c (.bool knownB)] (by rw [known_true])
end Go.Proofs.Tw
end
section
open Go Go.Sv Go.RowKit
namespace Go.Proofs.Tw
attribute [local irreducible] Wp FinQ resV Ent Pur Go.Sv.Fn Sat0
set_option maxRecDepth 100000
set_option maxHeartbeats 4000000
variable {G:Nat→Option (List Cell)}
theorem withinT_rng (a n:Int) (hn:0<n):0≤withinT a n∧withinT a n<n:=by
 have h1:=Int.tmod_lt_of_pos a hn
 have h2:=Int.lt_tmod_of_pos a hn
 unfold withinT
 split
 ·rename_i h;have h:=of_decide_eq_true h;omega
 ·rename_i h;have:¬ a.tmod n<0:=fun hc=>h (decide_eq_true hc)
  omega
theorem keyT_len (k:Int):(keyT k).length=9:=kR
def Ga (m:Int):Nat→Option (List Cell)
 | 1=>some [.int .i64 m]
 | n=>Gp n
theorem Ga_len (m:Int):HasLen (Ga m):=⟨m,rfl⟩
theorem Ga_pow (m:Int):HasPow (Ga m):=rfl
theorem Gp_Ga (m:Int):∀ g cs,Gp g=some cs→Ga m g=some cs:=by
 intro g cs h
 unfold Ga
 split
 ·exact absurd h (by rw [show Gp 1=none from rfl];simp)
 ·exact h
theorem Gd_Ga (m:Int):∀ g cs,Gd g=some cs→Ga m g=some cs:=fun g cs h=>Gp_Ga m g cs (Gd_Gp g cs h)
theorem key_may:∀ k:Nat,k<1000→mayC ⟨[115,105,100],keyT (k:Int)⟩=true:=fun k hk=>by
 have:(List.range 1000).all (fun k=>mayC ⟨[115,105,100],keyT ((k:Nat):Int)⟩)=true:=by kernel_rfl
 exact List.all_eq_true.1 this k (by simpa using hk)
theorem seen_of (p:UInt8→Bool) (h:(List.range 256).all (fun n => !p (UInt8.ofNat n)||seenB (UInt8.ofNat n))=true) {s:List UInt8} (hs:∀ c∈s,p c=true):s.all seenB=true:=by
 rw [List.all_eq_true]
 intro c hc
 have:=byte_all (fun c => !p c||seenB c) h c
 rw [hs c hc] at this
 simpa using this
theorem seenC_set {f:FT} {m:Nat} (h:mayC f=true):(setT f m).all seenB=true:=by
 obtain ⟨p1,p2,_,_⟩:=may_parts h
 unfold setT pairC
 rw [List.all_append,List.all_append,List.all_append,List.all_append,List.all_append,seen_of plainB kR p1,seen_of plainB kR p2,seen_of digitB kR (List.all_eq_true.1 (dec_all m)),show [(61:UInt8)].all seenB=true from rfl,show ageC.all seenB=true by kernel_rfl,show behC.all seenB=true by kernel_rfl];rfl
theorem ck_len {f:FT} {m:Nat} (h:mayC f=true) (hn:f.name.length≤10) (hv:f.value.length≤10) (hm:m≤1000):(setT f m).length≤100:=by
 have hd:=dec_len_le 13 m oM
 have h1:ageC.length=10:=rfl
 have h2:behC.length=40:=rfl
 unfold setT pairC
 simp only [List.length_append,List.length_cons,List.length_nil];omega
theorem UriF.seen {u:UT} (h:UriF u):(printU u).all seenB=true:=by
 have hT:=h.targ
 have hh:=h.hh
 unfold targT at hT
 unfold hostT at hh
 simp only [Bool.and_eq_true] at hT hh
 unfold printU
 rw [if_pos h.may,List.all_append,List.all_append,seen_of tgB kR (List.all_eq_true.1 hT.1),seen_of hostB kR (List.all_eq_true.1 hh.1)];rfl
theorem UriF.plen {u:UT} (h:UriF u):(printU u).length≤800:=by
 have:=h.len
 have:=h.h1
 unfold printU
 rw [if_pos h.may,List.length_append,List.length_append]
 show 8+_+_≤_;omega
theorem head3 {a b c:FT} (h1:okF a=true) (h2:okF b=true) (h3:okF c=true) {l:List UInt8} (hu:unlikeQ [a,b,c]=true) (hb:l.length≤4096):headT [a,b,c] l=true:=by
 unfold headT
 rw [hu,decide_eq_true (show (l.length:Int)≤4096 by omega)]
 simp only [List.all_cons,h1,h2,h3,List.all_nil]
 unfold mostT
 cases l==[]<;>rfl
theorem okF_of {f:FT} (h:(tokenT f.name&&((foldT f.name==f.name)&&(!(f.name==clN))))=true) (hv:f.value.all seenB=true):okF f=true:=by
 unfold okF
 rw [hv]
 simp only [Bool.and_eq_true] at h ⊢
 exact ⟨h.1,h.2.1,h.2.2,trivial⟩
theorem jsonH_ok:okF ⟨[99,111,110,116,101,110,116,45,116,121,112,101],[97,112,112,108,105,99,97,116,105,111,110,47,106,115,111,110]⟩=true∧okF ⟨[99,97,99,104,101,45,99,111,110,116,114,111,108],[110,111,45,115,116,111,114,101]⟩=true:=⟨by kernel_rfl,by kernel_rfl⟩
theorem tell1 {v:JV} {f:FT} {m:Nat} (hb:(printT v).length≤4096) (hf:mayC f=true) (hn:f.name.length≤10) (hv:f.value.length≤10) (hm:m≤1000):mayTell ⟨200,jsonH++[⟨[115,101,116,45,99,111,111,107,105,101],setT f m⟩],printT v⟩=true:=by
 have hl:=ck_len hf hn hv hm
 refine tell_may (by rfl) (head3 jsonH_ok.1 jsonH_ok.2 (okF_of kR (seenC_set hf)) kR hb) (ahead_le _ (by show (0:Int)≤200;omega) (by show (200:Int)≤1000;omega) (n:=400) (by show (printT v).length≤_;omega) ?_ oM)
 show (List.flatMap fieldL [_,_,_]).length≤_
 simp only [List.flatMap_cons,List.flatMap_nil,List.length_append,field_len,List.length_cons,List.length_nil]
 omega
theorem tell2 {u:UT} (hu:UriF u) {f:FT} {m:Nat} (hf:mayC f=true) (hn:f.name.length≤10) (hv:f.value.length≤10) (hm:m≤1000):mayTell ⟨302,goH u++[⟨[115,101,116,45,99,111,111,107,105,101],setT f m⟩],[]⟩=true:=by
 have hl:=ck_len hf hn hv hm
 have hp:=hu.plen
 refine tell_may (by rfl) (head3 (okF_of kR hu.seen) jsonH_ok.2 (okF_of kR (seenC_set hf)) kR (by simp)) (ahead_le _ (by show (0:Int)≤302;omega) (by show (302:Int)≤1000;omega) (n:=1200) (by simp) ?_ oM)
 show (List.flatMap fieldL [_,_,_]).length≤_
 simp only [List.flatMap_cons,List.flatMap_nil,List.length_append,field_len,List.length_cons,List.length_nil]
 omega
def failOk (e:Int):Bool:=mayTell (failT e)&&(decide (400≤(failT e).status)&&(decide ((failT e).status≤1000)&&(mayJ (errJ (wordT e)) 0&&decide (0<(wordT e).length))))
theorem fail_ok:∀ k:Nat,k<24→failOk (k:Int)=true:=fun k hk=>by
 have:(List.range 24).all (fun k=>failOk ((k:Nat):Int))=true:=by kernel_rfl
 exact List.all_eq_true.1 this k (by simpa using hk)
theorem tell_both {m:Int} (r:RT) (h:mayTell r=true) (h0:0≤r.status) (h1:r.status≤1000) (hn:r.head.length≤10) (hs:∀ f∈r.head,f.name.length≤9000∧f.value.length≤9000) (hb:r.body.length≤5000) :
  Pur Tryz.prog (Ga m) 14 [.agg (encT r)] [.c (.str (printTell r))]∧Pur Tryz.prog (Ga m) 13 [.c (.str (printTell r))] [.agg (encT r),.c (.int .i64 0)]:=by
 have hA:(aheadT (toldM r)).length≤2048:=by
  unfold mayTell at h
  rw [mayM_eq] at h
  cases hst:statedT r.status
  ·rw [hst] at h;cases h
  ·rw [hst] at h
   simp only [cond_true,Bool.and_eq_true,decide_eq_true_eq] at h
   omega
 refine ⟨printTell_ok (Ga_pow m) r h0 h1 ⟨by show r.head.length<_;omega,fun f hf => ?_,by show r.body.length≤_;omega,by omega⟩,?_⟩
 ·have:=hs f hf;omega
 ·have hp:(printTell r).length<1000000000:=by
   unfold printTell
   rw [if_pos h,List.length_append];omega
  have:=parseR_ok (Ga_len m) (printTell r) hp
  rw [parse_print_R h] at this
  exact this
theorem replyParses_ok {m:Int} (ns:List Int) (n sid:Int) (hl:ns.length≤9223372036854775807):Pur Tryz.prog (Ga m) 3 [.c (.sl 1 ns.length (intsF ns)),.c (.int .i64 n),.c (.int .i64 sid)] [.c (.bool true)]:=by
 refine zp Tryz.func3 ?_
 have k0:=Tw.Pur.grow (Gd_Ga m) known_ok
 have hG:=good_val ns 2 0
 have hM:=may_val ns 2 0 0 dC
 have k1:=val_ok (G:=Ga m) ns hl 2 oM 0
 generalize hv:valT ns 2 0=va at hG hM k1
 obtain ⟨v,a⟩:=va
 simp only at hG hM k1
 have sv:=good_small 2 v hG
 have fv:=good_fit 0 2 v oM hG
 have hpl:(printT v).length≤4096:=by
  have:=printJ_le 2 v hG
  have e:lenB 2=2048:=rfl
  unfold printT
  rw [if_pos hM];omega
 have k2:=uri_ok (G:=Ga m) ns hl
 have fu:=uri_fit ns
 have uf:=uriT_f ns
 generalize uriT ns=u at k2 fu uf
 have w1:=withinT_rng sid 1000 oM
 have w2:=withinT_rng n 1000 oM
 have w3:=withinT_rng n 24 oM
 have k3:=within_ok (G:=Ga m) sid 1000 oM oM
 have k4:=within_ok (G:=Ga m) n 1000 oM oM
 have k5:=within_ok (G:=Ga m) n 24 oM oM
 obtain ⟨s1,hs1⟩:=Int.eq_ofNat_of_zero_le w1.1
 obtain ⟨s2,hs2⟩:=Int.eq_ofNat_of_zero_le w2.1
 obtain ⟨s3,hs3⟩:=Int.eq_ofNat_of_zero_le w3.1
 rw [hs1] at k3 w1
 rw [hs2] at k4 w2
 rw [hs3] at k5 w3
 have k6:=Key_ok (G:=Ga m) (s1:Int) oM oM
 have hmc:=key_may s1 oM
 have hkl:=keyT_len (s1:Int)
 generalize keyT (s1:Int)=c at k6 hmc hkl
 have k7:=Tw.Pur.grow (Gd_Ga m) (Json_ok sv (fun _=>fv))
 have k8:=Tw.Pur.grow (Gp_Ga m) (with_ok (jsonT v) c (s2:Int) (by show 2≤1000000;omega) oM)
 have ck1:ckF c (s2:Int)=⟨[115,101,116,45,99,111,111,107,105,101],setT ⟨[115,105,100],c⟩ s2⟩:=by unfold ckF;rw [set_set hmc oM]
 have ck2:ckF c (5:Int)=⟨[115,101,116,45,99,111,111,107,105,101],setT ⟨[115,105,100],c⟩ 5⟩:=by unfold ckF;rw [show (5:Int)=((5:Nat):Int) from rfl,set_set hmc oM]
 have e1:withT2 (jsonT v) c (s2:Int)=⟨200,jsonH++[⟨[115,101,116,45,99,111,111,107,105,101],setT ⟨[115,105,100],c⟩ s2⟩],printT v⟩:=by unfold withT2;rw [ck1];rfl
 have e2:withT2 (goT u) c 5=⟨302,goH u++[⟨[115,101,116,45,99,111,111,107,105,101],setT ⟨[115,105,100],c⟩ 5⟩],[]⟩:=by unfold withT2;rw [ck2];rfl
 have k9:=Tw.Pur.grow (Gp_Ga m) (go_ok u fu)
 have k10:=Tw.Pur.grow (Gp_Ga m) (with_ok (goT u) c 5 (by show 2≤1000000;omega) oM)
 rw [e1] at k8
 rw [e2] at k10
 have l1:=ck_len (m:=s2) hmc (by show 3≤10;omega) (by show c.length≤10;omega) oM
 have l2:=ck_len (m:=5) hmc (by show 3≤10;omega) (by show c.length≤10;omega) oM
 have lu:=uf.plen
 obtain ⟨p1,q1⟩:=tell_both (m:=m) _ (tell1 (v:=v) (m:=s2) hpl hmc (by show 3≤10;omega) (by show c.length≤10;omega) oM) (by show (0:Int)≤200;omega) (by show (200:Int)≤1000;omega) (by show 3≤10;omega)
  (fun f hf=>by
   have hf:f∈[(⟨[99,111,110,116,101,110,116,45,116,121,112,101],[97,112,112,108,105,99,97,116,105,111,110,47,106,115,111,110]⟩:FT),⟨[99,97,99,104,101,45,99,111,110,116,114,111,108],[110,111,45,115,116,111,114,101]⟩,⟨[115,101,116,45,99,111,111,107,105,101],setT ⟨[115,105,100],c⟩ s2⟩]:=hf
   simp only [List.mem_cons,List.not_mem_nil,or_false] at hf
   rcases hf with rfl | rfl | rfl
   ·exact ⟨by decide,by decide⟩
   ·exact ⟨by decide,by decide⟩
   ·exact ⟨by show 10≤9000;omega,by show (setT _ _).length≤_;omega⟩) (by show (printT v).length≤_;omega)
 obtain ⟨p2,q2⟩:=tell_both (m:=m) _ (tell2 (m:=5) uf hmc (by show 3≤10;omega) (by show c.length≤10;omega) oM) (by show (0:Int)≤302;omega) (by show (302:Int)≤1000;omega) (by show 3≤10;omega)
  (fun f hf=>by
   have hf:f∈[(⟨[108,111,99,97,116,105,111,110],printU u⟩:FT),⟨[99,97,99,104,101,45,99,111,110,116,114,111,108],[110,111,45,115,116,111,114,101]⟩,⟨[115,101,116,45,99,111,111,107,105,101],setT ⟨[115,105,100],c⟩ 5⟩]:=hf
   simp only [List.mem_cons,List.not_mem_nil,or_false] at hf
   rcases hf with rfl | rfl | rfl
   ·exact ⟨by show 8≤9000;omega,by show (printU u).length≤_;omega⟩
   ·exact ⟨by decide,by decide⟩
   ·exact ⟨by show 10≤9000;omega,by show (setT _ _).length≤_;omega⟩) (by show 0≤5000;omega)
 have hfo:=fail_ok s3 oM
 unfold failOk at hfo
 simp only [Bool.and_eq_true,decide_eq_true_eq] at hfo
 obtain ⟨f1,f2,f3,f4,f5⟩:=hfo
 have k11:=Tw.Pur.grow (Gd_Ga m) (Fail_ok (s3:Int))
 have hws:=word_short (s3:Int)
 have fT:failT (s3:Int)=⟨statT (s3:Int),jsonH,printT (errJ (wordT (s3:Int)))⟩:=rfl
 rw [fT] at f1 f2 f3 k11
 have f2:400≤statT (s3:Int):=f2
 have f3:statT (s3:Int)≤1000:=f3
 have hbl:(printT (errJ (wordT (s3:Int)))).length≤5000:=by
  unfold printT
  rw [if_pos f4,err_print]
  have:=quoted_len (wordT (s3:Int))
  have h2:(quotedT [101,114,114,111,114]).length=7:=by kernel_rfl
  simp only [List.length_append,List.length_cons,List.length_nil];omega
 have j2:=parse12_ok (G:=Ga m) (printT (errJ (wordT (s3:Int)))) oM
 rw [parse_print_J f4] at j2
 clear fT hws
 generalize statT (s3:Int)=st at *
 generalize wordT (s3:Int)=wd at *
 generalize printT (errJ wd)=pe at *
 obtain ⟨p3,q3⟩:=tell_both (m:=m) ⟨st,jsonH,pe⟩ f1 (show 0≤st by omega) f3 (by show 2≤10;omega)
  (fun f hf=>by
   have hf:f∈[(⟨[99,111,110,116,101,110,116,45,116,121,112,101],[97,112,112,108,105,99,97,116,105,111,110,47,106,115,111,110]⟩:FT),⟨[99,97,99,104,101,45,99,111,110,116,114,111,108],[110,111,45,115,116,111,114,101]⟩]:=hf
   simp only [List.mem_cons,List.not_mem_nil,or_false] at hf
   rcases hf with rfl | rfl
   ·exact ⟨by decide,by decide⟩
   ·exact ⟨by decide,by decide⟩) hbl
 have j1:=parse12_ok (G:=Ga m) (printT v) oM
 rw [parse_print_J hM] at j1
 have g1:=get10_ok (G:=Ga m) (goH u++[⟨[115,101,116,45,99,111,111,107,105,101],setT ⟨[115,105,100],c⟩ 5⟩]) [108,111,99,97,116,105,111,110] (by show 3<4611686018427387904;omega)
 rw [show fGet (goH u++[⟨[115,101,116,45,99,111,111,107,105,101],setT ⟨[115,105,100],c⟩ 5⟩]) [108,111,99,97,116,105,111,110]=some (printU u) from rfl] at g1
 have g2:=get10_ok (G:=Ga m) (jsonH++[⟨[115,101,116,45,99,111,111,107,105,101],setT ⟨[115,105,100],c⟩ s2⟩]) [115,101,116,45,99,111,111,107,105,101] (by show 3<4611686018427387904;omega)
 rw [show fGet (jsonH++[⟨[115,101,116,45,99,111,111,107,105,101],setT ⟨[115,105,100],c⟩ s2⟩]) [115,101,116,45,99,111,111,107,105,101]=some (setT ⟨[115,105,100],c⟩ s2) from rfl] at g2
 have u1:=parse11_ok (G:=Ga m) (printU u) oM
 rw [uf.parse] at u1
 have r1:=read14_yes (G:=Ga m) ⟨[115,105,100],c⟩ s2 hmc oM
 have t1:=text12_ok (G:=Ga m) (errJ (wd)) [101,114,114,111,114] (by show 1<4611686018427387904;omega) (by show 1<4611686018427387904;omega)
 rw [show getT (errJ (wd)) [101,114,114,111,114]=some (wd) from rfl] at t1
 have s1':=sameJ_ok (G:=Ga m) sv
 have s2':=same11_ok (G:=Ga m) u u (by have:=uf.h5;omega)
 rw [sameU_refl] at s2'
 have t2:decide (((wd).length:Int)>0)=true:=decide_eq_true oM
 have t3:decide (st≥400)=true:=decide_eq_true oM
 clear hG hM sv fv fu uf w1 w2 w3 hmc hv f1 f3 f4 f5 f2 hbl ck1 ck2 e1 e2 hs1 hs2 hs3
 generalize printT v=pv at *
 refine zg [(1,{cs:=[(0,pc k0)]}),(4,{cs:=[(1,cb [80] k1)]}),(5,{cs:=[(1,pc k2)]}),(6,{cs:=[(1,pc k3),(2,pc k6)]}),(7,{cs:=[(1,pc k7),(4,pc k4),(5,pc k8),(6,pc p1),(7,pc q1)]}),(8,{cs:=[(1,pc k9),(3,pc k10),(4,pc p2),(5,pc q2)]}),(9,{cs:=[(1,pc k5),(2,pc k11),(3,pc p3),(4,pc q3)]}),(10,{cs:=[(2,pc j1)]}),(11,{cs:=[(2,pc g1)]}),(12,{cs:=[(1,pc u1)]}),(13,{cs:=[(2,pc g2)]}),(14,{cs:=[(1,pc r1)]}),(15,{cs:=[(2,pc j2)]}),(16,{cs:=[(1,pc t1)]}),(17,{cs:=[(27,pc s1'),(39,pc s2')]})] [false] [(!true)=false] rfl ?_
 exact zS [.c (.bool (bif bif bif bif bif bif bif bif bif bif bif bif bif bif bif (0:Int)==(0:Int) then (0:Int)==(0:Int) else false then (0:Int)==(0:Int) else false then (RT.mk (200:Int) (jsonH++[FT.mk [(115:UInt8),101,116,45,99,111,111,107,105,101] (setT (FT.mk [(115:UInt8),105,100] c) s2)]) pv).status==(200:Int) else false then (RT.mk (302:Int) (goH u++[FT.mk [(115:UInt8),101,116,45,99,111,111,107,105,101] (setT (FT.mk [(115:UInt8),105,100] c) (5:Nat))]) []).status==(302:Int) else false then (0:Int)==(0:Int) else false then true else false then (some (printU u)).isSome else false then (0:Int)==(0:Int) else false then true else false then true else false then (FT.mk [(115:UInt8),105,100] c).name==[(115:UInt8),105,100]&&((FT.mk [(115:UInt8),105,100] c).value==c&&true) else false then (0:Int)==(0:Int) else false then (some wd).isSome else false then decide ((↑((some wd).getD []).length:Int)>(0:Int)) else false then decide ((RT.mk st jsonH pe).status≥(400:Int)) else false))] (by simp_all;done)
end Go.Proofs.Tw
end
section
namespace Go.Sv
theorem mapM_keep {α β:Type} {f g:α→Option β}:∀ {l:List α} {ys:List β},l.mapM f=some ys→(∀ x∈l,∀ y,f x=some y→y∈ys→g x=some y)→l.mapM g=some ys
 | [],ys,h,_=>by simpa using h
 | x::l,ys,h,hg=>by
  rw [List.mapM_cons] at h ⊢
  cases hx:f x with
  | none=>rw [hx] at h; cases h
  | some y =>
   rw [hx] at h
   cases hl:l.mapM f with
   | none=>rw [hl] at h; cases h
   | some zs =>
    rw [hl] at h
    obtain rfl:y::zs=ys:=by simpa using h
    rw [hg x (by simp) y hx (by simp),mapM_keep hl (fun u hu v hv hm=>hg u (by simp [hu]) v hv (by simp [hm]))]
    rfl
theorem cell_keep {W W':World} (hk:∀ b,b<W.heap.size→W'.heap[b]?=W.heap[b]?) {a:Addr} {v:Value} (h:W.cell? a=some v):W'.cell? a=some v:=by
 have hb:a.block<W.heap.size:=by
  rcases Nat.lt_or_ge a.block W.heap.size with hlt | hge
  ·exact hlt
  ·simp [World.cell?,Array.getElem?_eq_none hge] at h
 simp only [World.cell?,hk _ hb] at h ⊢
 exact h
theorem cells_keep {W W':World} (hk:∀ b,b<W.heap.size→W'.heap[b]?=W.heap[b]?) {base:Nat} {a:Addr} {n:Nat} {l:List Value} (h:W.cells? base a n=some l):W'.cells? base a n=some l:=by
 unfold World.cells? at h ⊢
 split at h
 ·rename_i hb
  rw [if_pos hb]
  exact mapM_keep h (fun x _ y hy _=>cell_keep hk hy)
 ·cases h
def stepT (P:Program) (S:TypeId→Bool) (t:TypeId):Bool:=match P.underlying t with
 | some (.slice e) => !(Nat.beq (P.cellsOf e) 0)&&S e
 | some (.pointer e)=>S e
 | some (.struct fs)=>fs.toList.all fun f=>S f.type
 | some (.array _ e)=>S e
 | some (.map _ e)=>S e
 | _=>true
def inL (l:List TypeId) (t:TypeId):Bool:=l.any fun u=>Nat.beq u t
def closedT (P:Program) (l:List TypeId):Bool:=l.all (stepT P (inL l))
theorem closed_step {P:Program} {l:List TypeId} (h:closedT P l=true) {t:TypeId} (ht:inL l t=true):stepT P (inL l) t=true:=by
 obtain ⟨u,hu,e⟩:=List.any_eq_true.1 ht
 obtain rfl:u=t:=Nat.eq_of_beq_eq_true e
 exact List.all_eq_true.1 h u hu
theorem trod_keep {H:Type} {enc:TypeId×Value→H} {P:Program} {W W':World} {base:Nat} {sp sp':Nat→Bool} {l:List TypeId} (hk:∀ b,b<W.heap.size→W'.heap[b]?=W.heap[b]?)
  (hz:closedT P l=true) (hsp:∀ b,sp b=true):∀ (fuel:Nat) (t:TypeId) (cs:List Value) (d:DataW H) (p:List MemPlace),inL l t=true→DataW.trod enc P W base sp true fuel t cs=some (d,p) →
   (∀ q∈p,sp' q.block=true)→DataW.trod enc P W' base sp' true fuel t cs=some (d,p):=by
 intro fuel
 induction fuel with
 | zero=>intro t cs d p _ h; simp [DataW.trod] at h
 | succ fuel ih =>
  intro t cs d p hin h hs
  have hst:=closed_step hz hin
  unfold stepT at hst
  unfold DataW.trod at h ⊢
  generalize hu:P.underlying t=u at h hst ⊢
  split at h
  case h_6 e a =>
   simp only at hst
   rw [Option.map_eq_some_iff] at h
   obtain ⟨x,hx,he⟩:=h
   rw [Option.bind_eq_some_iff] at hx
   obtain ⟨vl,hl,hx⟩:=hx
   simp only [Prod.mk.injEq] at he
   obtain ⟨rfl,rfl⟩:=he
   simp only [cells_keep hk hl,Option.bind_some]
   rw [ih e vl x.1 x.2 hst hx (fun q hq=>hs q (by simp [hq]))]
   rfl
  case h_8 e a len cap =>
   simp only [Bool.and_eq_true,Bool.not_eq_true'] at hst
   have hz:P.cellsOf e≠0:=fun h0=>by rw [h0] at hst;exact absurd hst.1 dC
   simp only at h ⊢
   split at h
   ·rename_i hc
    rw [if_pos hc]
    rw [Option.bind_eq_some_iff] at h
    obtain ⟨elems,hel,h⟩:=h
    rw [Option.map_eq_some_iff] at h
    obtain ⟨rest,hre,he⟩:=h
    simp only [Prod.mk.injEq] at he
    obtain ⟨rfl,rfl⟩:=he
    have elemAt:∀ (i:Nat) (y:DataW H×List MemPlace),(W.cells? base (a.add (i*P.cellsOf e)) (P.cellsOf e)).bind (DataW.trod enc P W base sp true fuel e)=some y→y∈elems++rest →
      (W'.cells? base (a.add (i*P.cellsOf e)) (P.cellsOf e)).bind (DataW.trod enc P W' base sp' true fuel e)=some y:=by
     intro i y hy hm
     rw [Option.bind_eq_some_iff] at hy ⊢
     obtain ⟨vl,hl,hy⟩:=hy
     exact ⟨vl,cells_keep hk hl,ih e vl y.1 y.2 hst.2 hy (fun q hq=>hs q (List.mem_append_right _ (List.mem_flatMap.2 ⟨y,hm,hq⟩)))⟩
    rw [mapM_keep hel (fun x _ y hy hm=>elemAt x y hy (List.mem_append_left _ hm))]
    simp only [Option.bind_some]
    have hrest:(if sp' a.block=true then (List.range (cap-len)).mapM fun j=>(W'.cells? base (a.add ((len+j)*P.cellsOf e)) (P.cellsOf e)).bind (DataW.trod enc P W' base sp' true fuel e) else some [])=some rest:=by
     by_cases h0:elems.length+rest.length=0
     ·have hr:rest=[]:=List.eq_nil_of_length_eq_zero oM
      have hle:elems=[]:=List.eq_nil_of_length_eq_zero oM
      have none0:∀ {f:Nat→Option (DataW H×List MemPlace)} {n:Nat} {ys:List (DataW H×List MemPlace)},(List.range n).mapM f=some ys→ys=[]→n=0:=by
       intro f n ys h hy
       subst hy
       cases n with
       | zero=>rfl
       | succ n =>
        rw [List.range_succ_eq_map,List.mapM_cons] at h
        exfalso
        revert h
        cases f 0 with
        | none=>intro h; cases h
        | some y =>
         intro h
         simp only [Option.bind_eq_bind,Option.bind_some] at h
         rw [Option.bind_eq_some_iff] at h
         obtain ⟨_,_,h⟩:=h
         simp at h
      have hlen:=none0 hel hle
      rw [if_pos (hsp _)] at hre
      have hc0:=none0 hre hr
      rw [hc0,hr]
      simp
     ·have hb:sp' a.block=true:=by
       have hm:(MemPlace.cell a.block (a.off+0))∈MemPlace.row a ((elems.length+rest.length)*P.cellsOf e):=by
        unfold MemPlace.row
        refine List.mem_map.2 ⟨0,List.mem_range.2 ?_,rfl⟩
        exact Nat.mul_pos oM oM
       exact hs _ (List.mem_append_left _ hm)
      rw [if_pos hb]
      rw [if_pos (hsp _)] at hre
      exact mapM_keep hre (fun x _ y hy hm=>elemAt (len+x) y hy (List.mem_append_right _ hm))
    rw [hrest]
    rfl
   ·cases h
  case h_9 fs =>
   split at h
   ·rename_i hc
    rw [if_pos hc]
    rw [Option.map_eq_some_iff] at h
    obtain ⟨xs,hx,he⟩:=h
    simp only [Prod.mk.injEq] at he
    obtain ⟨rfl,rfl⟩:=he
    rw [mapM_keep hx (fun f hf y hy hm=>ih _ _ y.1 y.2 (List.all_eq_true.1 hst f hf) hy (fun q hq=>hs q (List.mem_flatMap.2 ⟨y,hm,hq⟩)))]
    rfl
   ·cases h
  case h_10 n e =>
   split at h
   ·rename_i hc
    rw [if_pos hc]
    rw [Option.map_eq_some_iff] at h
    obtain ⟨xs,hx,he⟩:=h
    simp only [Prod.mk.injEq] at he
    obtain ⟨rfl,rfl⟩:=he
    rw [mapM_keep hx (fun f _ y hy hm=>ih _ _ y.1 y.2 hst hy (fun q hq=>hs q (List.mem_flatMap.2 ⟨y,hm,hq⟩)))]
    rfl
   ·cases h
  case h_12 ms u v=>exact h
  case h_14 k e b =>
   cases hb:W.heap[b]? with
   | none=>rw [hb] at h; cases h
   | some o =>
    have hlt:b<W.heap.size:=by
     rcases Nat.lt_or_ge b W.heap.size with hlt | hge
     ·exact hlt
     ·rw [Array.getElem?_eq_none hge] at hb;cases hb
    rw [hb] at h
    rw [hk b hlt,hb]
    cases o with
    | map es clock =>
     simp only at h ⊢
     split at h
     ·rename_i hc
      rw [if_pos hc]
      rw [Option.bind_eq_some_iff] at h
      obtain ⟨entries,he,h⟩:=h
      have he':entries.flatMap (fun x=>x.2) ⊆ p:=by
       split at h
       ·simp only [Option.some.injEq,Prod.mk.injEq] at h
        rw [← h.2]
        exact fun x hx=>List.mem_cons_of_mem _ hx
       ·cases h
      rw [mapM_keep (g:=fun x=>(keyOf P k x.key).bind fun key=>if x.val.formed P e then (DataW.trod enc P W' base sp' true fuel e x.val.cells.toList).map fun y=>((key,y.1),y.2) else none) he (fun x _ y hy hm=>by
       rw [Option.bind_eq_some_iff] at hy ⊢
       obtain ⟨key,hkey,hy⟩:=hy
       refine ⟨key,hkey,?_⟩
       split at hy
       ·rename_i hf
        rw [if_pos hf]
        rw [Option.map_eq_some_iff] at hy ⊢
        obtain ⟨z,hz',rfl⟩:=hy
        exact ⟨z,ih e _ z.1 z.2 hst hz' (fun q hq=>hs q (he' (List.mem_flatMap.2 ⟨_,hm,hq⟩))),rfl⟩
       ·cases hy)]
      exact h
     ·cases h
    | _=>cases h
  all_goals exact h
theorem trodAll_keep {H:Type} {enc:TypeId×Value→H} {P:Program} {W W':World} {base:Nat} {sp sp':Nat→Bool} {l:List TypeId} (hk:∀ b,b<W.heap.size→W'.heap[b]?=W.heap[b]?)
  (hz:closedT P l=true) (hsp:∀ b,sp b=true):∀ (ts:List TypeId) (vs:List Value) (ds:List (DataW H)) (p:List MemPlace),(∀ t∈ts,inL l t=true)→DataW.TrodAll enc P W base sp true ts vs ds p →
   (∀ q∈p,sp' q.block=true)→DataW.TrodAll enc P W' base sp' true ts vs ds p
 | [],[],[],p,_,h,_=>h
 | t::ts,v::vs,d::ds,p,hl,⟨p1,q1,⟨fuel,h1⟩,h2,e⟩,hs =>
  ⟨p1,q1,⟨fuel,trod_keep hk hz hsp fuel t _ d p1 (hl t (by simp)) h1 (fun q hq=>hs q (by rw [e];simp [hq]))⟩,trodAll_keep hk hz hsp ts vs ds q1 (fun t ht=>hl t (by simp [ht])) h2 (fun q hq=>hs q (by rw [e];simp [hq])),e⟩
theorem ints_den {H:Type} {enc:TypeId×Value→H} {P:Program} {W:World} {base0 base:Nat} {sp:Nat→Bool} {held:Bool} {t e:TypeId} {k:IntKind} (ht:P.underlying t=some (.slice e)) (he:P.underlying e=some (.int k)) (hc:P.cellsOf e=1)
  {v:Value} {d:DataW H} {p:List MemPlace} (hok:Value.okWide P W .any base0 t v) (h:DataW.Trod enc P W base sp held t v d p) :
  ∃ ns:List Int,ns.length≤maxLen∧DenV (Dw W) rho0 (.c (.sl 1 ns.length (fun i _ => .int k (ns.getD i 0)))) v:=by
 obtain ⟨fuel,hf⟩:=h
 obtain ⟨a0,len0,cap0,rfl⟩:=Go.WideShapes.okWide_slice ht hok
 rcases Go.ChangeShapes.open_ints ht he hc hf with ⟨hcs,_⟩ | ⟨a,len,cap,zs,hcs,_,hl,hm,hzl,_,hcell,_⟩
 ·have:Value.slice a0 len0 cap0 = .slice none 0 0:=by simpa [Value.cells] using hcs
  rw [this]
  exact ⟨[],Nat.zero_le _,none,0,rfl,Nat.le_refl _,Nat.zero_le _,.inl ⟨rfl,rfl⟩⟩
 ·have hv:Value.slice a0 len0 cap0 = .slice (some a) len cap:=by simpa [Value.cells] using hcs
  rw [hv] at hok ⊢
  have hsp:a.spot=none:=by
   simp only [Value.okWide,ht,Cell.okWide,Cell.ok] at hok
   exact hok.2.2.2.1
  obtain ⟨b,o,spot⟩:=a
  simp only at hsp
  subst hsp
  have hle:len≤zs.length:=by rw [hzl];split<;>omega
  have hn:(zs.take len).length=len:=by rw [List.length_take];omega
  refine ⟨zs.take len,by rw [hn];omega,some ⟨b,o,none⟩,cap,by rw [hn],by rw [hn];exact hl,hm,.inr ⟨b,o,rfl,fun i hi j hj => ?_⟩⟩
  obtain rfl:j=0:=by omega
  rw [hn] at hi
  have:=hcell i oM
  rw [Go.WideShapes.add_plain] at this
  refine ⟨.int k (zs.getD i 0),by unfold Dw;rw [← this];congr 2;omega,?_⟩
  simp only [Den]
  congr 1
  simp [List.getD,List.getElem?_take,hi]
theorem int_den {P:Program} {W:World} {base0:Nat} {t:TypeId} {k:IntKind} (ht:P.underlying t=some (.int k)) {v:Value} (hok:Value.okWide P W .any base0 t v) :
  ∃ z:Int,DenV (Dw W) rho0 (.c (.int k z)) v:=by
 obtain ⟨n,rfl⟩:=Go.WideShapes.okWide_int ht hok
 exact ⟨n,rfl⟩
end Go.Sv
end
section
namespace Go.Sv
theorem int_shape {P:Program} {w:World} {g:Nat} {t:TypeId} {zero:Array Value} {k:IntKind} (h:w.ShapedOpen P) (hg:g<P.globals.size)
  (h0:((begin P (fun _ _=>0) default).world.heap[g]?).bind Obj.row?=some (zero,t)) (hz:zero.size=1)
  (hb:P.buildable t=true) (hc:P.cellTypes P.depth t=some [t]) (hu:P.underlying t=some (.int k)):∃ (m:Int) (cs:Array Value) (fz:Nat×Nat),w.heap[g]?=some (.cells cs t fz)∧cs.size=1∧cs[0]?=some (.int k m):=by
 obtain ⟨cs,hh,hs,hr⟩:=h.1 g zero t hg h0
 obtain ⟨ts,hts,_,hall⟩:=hr hb
 rw [hc] at hts
 cases hts
 have h1:0<cs.size:=by omega
 obtain ⟨u,hu',hok⟩:=hall 0 cs[0] (by simp [h1])
 have:u=t:=by simpa using hu'.symm
 subst this
 have hcell:cs[0]?=some cs[0]:=by simp [h1]
 unfold Cell.ok at hok
 rw [hu] at hok
 cases hv:cs[0] with
 | int k' n =>
  rw [hv] at hok
  have hk:k'=k:=by first | exact hok.1 | exact hok.1.symm | (simp at hok;exact hok.1) | (simp at hok;exact hok.1.symm)
  subst hk
  exact ⟨n,cs,_,hh,by omega,by rw [hcell,hv]⟩
 | _=>rw [hv] at hok; simp at hok
theorem glob_plus {P:Program} {G:Nat→Option (List Cell)} {W:World} {laid:List (String×DataW Unit)} {g0:Nat} {k:IntKind} {m:Int} {cs0:Array Value} {t0:TypeId} {fz0:Nat×Nat} (h:laidMet P laid W)
  (hw:W.heap[g0]?=some (.cells cs0 t0 fz0)) (hs:cs0.size=1) (hx:cs0[0]?=some (.int k m)) (h0:G g0=some [.int k m])
  (hG:∀ g cs,g≠g0→G g=some cs→∃ n d t,(n,d)∈laid∧P.globalNamed n=some g∧(P.globals[g]?).map (·.type)=some t∧dc P 9 t d=some cs):GlobOk G (Dw W)∧GlobW G W:=by
 obtain ⟨k1,k2⟩:=glob_ok (G:=fun g=>if g=g0 then none else G g) (laid:=laid) h (fun g cs hg=>by
  split at hg
  ·cases hg
  ·rename_i hne;exact hG g cs hne hg)
 refine ⟨fun g cs hg j x hj => ?_,fun g cs hg hne => ?_⟩
 ·by_cases e:g=g0
  ·subst e
   rw [h0] at hg
   obtain rfl:=Option.some.inj hg
   cases j with
   | zero =>
    simp at hj;subst hj
    exact ⟨.int k m,by simp only [Dw,World.cell?,hw,Option.isSome_none,Bool.false_eq_true,if_false];exact hx,rfl⟩
   | succ j=>simp at hj
  ·exact k1 g cs (by show (if g=g0 then none else G g)=some cs;rw [if_neg e];exact hg) j x hj
 ·by_cases e:g=g0
  ·subst e
   rw [h0] at hg
   obtain rfl:=Option.some.inj hg
   exact ⟨cs0,t0,fz0,hw,by rw [hs];rfl⟩
  ·exact k2 g cs (by show (if g=g0 then none else G g)=some cs;rw [if_neg e];exact hg) hne
end Go.Sv
end

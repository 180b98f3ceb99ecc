/- Own texts for this claim: Ury, Ck0, Coo, Ans, Gen, Gen2, Sam, Smal, Fits, Ck1, Ck2, Ck3, Ck4, Nums, Nmk, Tel, Hp0, Hp1, Hp2, Hp3, Hp4, Hp5, Ck5, Ck6, Ck7, Hp6, Hp7, Hp8, Hp9, Hp10, Hp11, Hp12, Hp13, Hp14, Hp15, Jn, Hp17, Jp0. -/
import Derived.Test.YtkhpjdkikncjiaaGreatDoorReplyParsesCardP3
import Derived.Test.YtkhpjdkikncjiaaGreatDoorReplyParsesCardP5
set_option linter.all false
section
open Go Go.Sv Go.RowKit
namespace Go.Proofs.Tw
attribute [local irreducible] Wp FinQ resV Ent Pur Go.Sv.Fn Sat0
set_option maxRecDepth 100000
set_option maxHeartbeats 4000000
variable {G:Nat→Option (List Cell)}
def namesQ (l:List FT) (k:Nat):List (List UInt8):=(l.take k).map (·.name)
def okQ (l:List FT) (i:Nat):Bool := !((l.getD i .nil).name==[]) && !isIn (namesQ l i) (l.getD i .nil).name
def unlikeQ (l:List FT):Bool:=(List.range l.length).all (okQ l)
theorem namesQ_succ (l:List FT) (k:Nat) (h:k<l.length):namesQ l (k+1)=namesQ l k++[(l.getD k .nil).name]:=by
 unfold namesQ
 rw [List.take_succ_eq_append_getElem h,List.map_append,List.getD_eq_getElem?_getD,List.getElem?_eq_getElem h]
 rfl
theorem namesQ_len (l:List FT) (k:Nat) (h:k≤l.length):k=(namesQ l k).length:=by unfold namesQ;simp;omega
def dupI (l:List FT):Int:=ixF (fun i => !okQ l i) (List.range l.length)
theorem dup_some {l:List FT} {k:Nat} (hk:k<l.length) (hall:∀ i,i<k→okQ l i=true) (h:okQ l k=false):dupI l=(k:Int):=by
 unfold dupI
 refine ixF_some (d:=0) (by simpa using hk) (fun i hi => ?_) ?_
 ·rw [List.getD_eq_getElem?_getD,List.getElem?_range oM];simp [hall i hi]
 ·rw [List.getD_eq_getElem?_getD,List.getElem?_range hk];simp [h]
theorem dup_none {l:List FT} (hall:∀ i,i<l.length→okQ l i=true):dupI l = -1:=by
 unfold dupI
 refine ixF_none (d:=0) (fun i hi => ?_)
 rw [List.length_range] at hi
 rw [List.getD_eq_getElem?_getD,List.getElem?_range hi];simp [hall i hi]
theorem dup_unl (l:List FT):decide (dupI l≥0) = !unlikeQ l:=by
 unfold dupI unlikeQ
 rw [ixF_any,List.not_all_eq_any_not]
def idxInvF (l:List FT):Option Nat→St
 | none=>⟨[(0,.v (.c (encH l))),(1,.v (.c (clo1 (171+1000000000) (.ptr 0 0)))),(7,.v (.c (.int .i64 (l.length:Int)))),(8,.v (.c (.int .i64 0)))],[(0,.box 191 [.nilsl])],65⟩
 | some k=>⟨[(0,.v (.c (encH l))),(1,.v (.c (clo1 (171+1000000000) (.ptr 0 0)))),(7,.v (.c (.int .i64 (l.length:Int)))),(8,.v (.c (.int .i64 (k:Int))))],[(0,.box 191 [.row 1 49 0 k]),(49,.row 9 1 k (strsF (namesQ l k)))],65⟩
def idxFacts (l:List FT):Option Nat→Prop
 | none=>True
 | some k=>k≤l.length∧(∀ i,i<k→okQ l i=true)
def idxMu (l:List FT):Option Nat→Nat
 | none=>l.length+1
 | some k=>l.length-k
theorem idxF_ok {G:Nat→Option (List Cell)} (l:List FT) (hl:l.length<1000000000000):FnB Tryz.prog G 213 [.box 191 [.nilsl]] [.c (encH l),.c (clo1 (171+1000000000) (.ptr 0 0))] [.c (.int .i64 (dupI l))] []:=by
 refine zf Tryz.func213 ?_
 refine z0 [] [] ?_
 refine zl (idxInvF l) (idxFacts l) (idxMu l) none trivial ?_
 rintro (_ | k) L hf again
 ·have hall:∀ i,i<0→okQ l i=true:=fun _ h=>absurd h (Nat.not_lt_zero _)
  rcases Nat.lt_or_ge 0 l.length with hlt | hge
  ·have hns:namesQ l (0+1)=[(l.getD 0 .nil).name]:=namesQ_succ l 0 hlt
   cases hn:(l.getD 0 .nil).name==[] with
   | true =>
    rw [dup_some hlt hall (by unfold okQ;rw [hn];rfl)]
    have c:=tw_a1 (G:=G) (l.getD 0 .nil) hn
    refine zg [(4,{cs:=[(5,cb [0] c)]})] [true,true] [decide (0<(l.length:Int))=true,(0:Int)≤(0:Int)∧(0:Int)<(l.length:Int),true=true] ⟨sO,oM,rfl⟩ ?_
    exact zr
   | false =>
    have ho:okQ l 0=true:=by unfold okQ;rw [hn];rfl
    have hnx:idxFacts l (some (0+1)):=⟨hlt,up1 hall ho⟩
    have hmu:idxMu l (some (0+1))<idxMu l none:=by show l.length-(0+1)<l.length+1;omega
    have c:=tw_a2 (G:=G) (l.getD 0 .nil) hn
    rw [← hns] at c
    refine zg [(4,{cs:=[(5,cb [0] c)]})] [true,false] [decide (0<(l.length:Int))=true,(0:Int)≤(0:Int)∧(0:Int)<(l.length:Int),false=false,inR .i64 (0+1)] ⟨sO,oM,rfl,i6⟩ ?_
    exact za [(49,193)] (again _ (some (0+1)) aS oM)
  ·rw [dup_none (fun i hi=>by omega)]
   refine zg [] [false] [decide (0<(l.length:Int))=false] (show decide ((0:Int)<(↑l.length:Int))=false from (by simp_all<;>omega)) ?_
   exact zr
 ·obtain ⟨hk,hall⟩:=hf
  rcases Nat.lt_or_ge k l.length with hlt | hge
  ·have hns:namesQ l (k+1)=namesQ l k++[(l.getD k .nil).name]:=namesQ_succ l k hlt
   have hnl:=namesQ_len l k oM
   cases hn:(l.getD k .nil).name==[] with
   | true =>
    rw [dup_some hlt hall (by unfold okQ;rw [hn];rfl)]
    have c:=tw_b1 (G:=G) (namesQ l k) k hnl oM (l.getD k .nil) hn
    refine zg [(4,{cs:=[(5,cb [0,49] c)]})] [true,true] [decide ((k:Int)<(l.length:Int))=true,(0:Int)≤(k:Int)∧(k:Int)<(l.length:Int),true=true] ⟨sO,oM,rfl⟩ ?_
    exact zr
   | false =>
    cases hi:isIn (namesQ l k) (l.getD k .nil).name with
    | true =>
     rw [dup_some hlt hall (by unfold okQ;rw [hn,hi];rfl)]
     have c:=tw_b2 (G:=G) (namesQ l k) k hnl oM (l.getD k .nil) hn hi
     refine zg [(4,{cs:=[(5,cb [0,49] c)]})] [true,true] [decide ((k:Int)<(l.length:Int))=true,(0:Int)≤(k:Int)∧(k:Int)<(l.length:Int),true=true] ⟨sO,oM,rfl⟩ ?_
     exact zr
    | false =>
     have ho:okQ l k=true:=by unfold okQ;rw [hn,hi];rfl
     have hnx:idxFacts l (some (k+1)):=⟨hlt,up1 hall ho⟩
     have hmu:idxMu l (some (k+1))<idxMu l (some k):=by show l.length-(k+1)<l.length-k;omega
     have c:=tw_b3 (G:=G) (namesQ l k) k hnl oM (l.getD k .nil) hn hi
     rw [← hns] at c
     refine zg [(4,{cs:=[(5,cb [0,49] c)]})] [true,false] [decide ((k:Int)<(l.length:Int))=true,(0:Int)≤(k:Int)∧(k:Int)<(l.length:Int),false=false,inR .i64 ((k:Int)+1)] ⟨sO,oM,rfl,i6⟩ ?_
     exact za [(49,193)] (again _ (some (k+1)) aS oM)
  ·rw [dup_none (fun i hi=>hall i oM)]
   refine zg [] [false] [decide ((k:Int)<(l.length:Int))=false] (oN sO) ?_
   exact zr
theorem conF_ok {G:Nat→Option (List Cell)} (l:List FT) (hl:l.length<1000000000000):FnB Tryz.prog G 170 [.box 191 [.nilsl]] [.c (encH l),.c (clo1 (171+1000000000) (.ptr 0 0))] [.c (.bool (!unlikeQ l))] []:=by
 refine zf Tryz.func170 ?_
 rw [← dup_unl]
 refine z0 [(1,{cs:=[(2,cb [0] (idxF_ok l aS))]})] [] ?_
 exact zr
def targetU (u:UT):List UInt8:=if u.query.length=0 then u.path else u.path++[63]++printQ u.query
structure FitU (u:UT):Prop where
 hh:u.host.length≤1000000000
 hp:u.path.length≤1000000000
 hn:u.query.length<1000000000
 hj:(printQ u.query).length≤10000000000
def mayU (u:UT):Bool:=hostT u.host&&pathT u.path&&decide ((u.query.length:Int)≤24)&&unlikeQ u.query&&decide ((([104,116,116,112,115,58,47,47]++u.host++targetU u).length:Int)≤1024)
def printU (u:UT):List UInt8:=if mayU u then [104,116,116,112,115,58,47,47]++u.host++targetU u else []
theorem fGet_isIn (l:List FT) (k:Nat) (s:List UInt8):(fGet (l.take k) s).isSome=isIn (namesQ l k) s:=by
 unfold fGet isIn namesQ
 rw [Option.isSome_map,List.any_map,Bool.eq_iff_iff,List.find?_isSome]
 simp
theorem target_ok (u:UT) (h:FitU u):Pur Tryz.prog Gp 120 [.agg (encU u)] [.c (.str (targetU u))]:=by
 refine zp Tryz.func120 ?_
 have hp:=h.hp
 have hn:=h.hn
 have hj:=h.hj
 by_cases h0:u.query.length=0
 ·have ht:targetU u=u.path:=by unfold targetU;rw [if_pos h0]
  rw [ht]
  refine zg [] [true] [((u.query.length:Int)==(0:Int))=true] (show ((↑u.query.length:Int)==(0:Int))=true from (by simp_all<;>omega)) ?_
  exact zr
 ·have ht:targetU u=u.path++[63]++printQ u.query:=by unfold targetU;rw [if_neg h0]
  rw [ht]
  refine zg [(3,{cs:=[(5,pc (printQ_ok u.query oM oM))]})] [false] [((u.query.length:Int)==(0:Int))=false,u.path.length+1≤9223372036854775807,(u.path++[(63:UInt8)]).length+(printQ u.query).length≤(9223372036854775807:Nat)] ⟨(by simp_all<;>omega),oM,(show (u.path++[(63:UInt8)]).length+(printQ u.query).length≤(9223372036854775807:Nat) from sO)⟩ ?_
  exact zr
theorem targetU_len (u:UT) (h:FitU u):(targetU u).length≤20000000000:=by
 have hp:=h.hp
 have hj:=h.hj
 unfold targetU
 split
 ·omega
 ·simp only [List.length_append,List.length_cons,List.length_nil];omega
theorem may_b2 (u:UT):(bif (bif bif !hostT u.host then true else !pathT u.path then true else decide ((u.query.length:Int)>24)) then false else (bif !(!unlikeQ u.query) then decide ((8:Int)+(u.host.length:Int)+((targetU u).length:Int)≤1024) else false))=mayU u:=by
 unfold mayU
 have h1:decide ((u.query.length:Int)>24) = !decide ((u.query.length:Int)≤24):=by rw [← decide_not];exact decide_eq_decide.2 oM
 have h2:decide ((([104,116,116,112,115,58,47,47]++u.host++targetU u).length:Int)≤1024)=decide ((8:Int)+(u.host.length:Int)+((targetU u).length:Int)≤1024):=decide_eq_decide.2 (by simp only [List.length_append,List.length_cons,List.length_nil];omega)
 rw [h1,h2]
 cases hostT u.host<;>cases pathT u.path<;>cases decide ((u.query.length:Int)≤24)<;>cases unlikeQ u.query<;>simp
theorem mayUri_ok (u:UT) (h:FitU u):Pur Tryz.prog Gp 119 [.agg (encU u)] [.c (.bool (mayU u))]:=by
 refine zp Tryz.func119 ?_
 have hh:=h.hh
 have hp:=h.hp
 have hn:=h.hn
 have ht:=targetU_len u h
 have c:=target_ok u h
 rw [← may_b2]
 have e1:=clo1_D (171+1000000000) (.ptr 368 0)
 have e2:=clo1_I (171+1000000000) (.ptr 368 0)
 refine z0 [(5,{fm:=[(2,.c (clo1 (171+1000000000) (.ptr 368 0)))]}),(2,{cs:=[(1,pc (hosted_ok u.host u.path oM)),(5,pc (pathed_ok u.host u.path oM))]})] [] ?_
 refine zc (bif bif !hostT u.host then true else !pathT u.path then true else decide ((↑u.query.length:Int)>(24:Int))) (fun h0 => ?_) (fun h0 => ?_)
 ·have g0:=h0
  simp at g0
  refine z0 [(5,{fm:=[(2,.c (clo1 (171+1000000000) (.ptr 368 0)))]})] [] ?_
  exact zS [.c (.bool false)] (by rw [h0];rfl)
 ·have g0:=h0
  simp at g0
  refine zg [(5,{cs:=[(3,cb [368] (conF_ok u.query oM)),(11,pc c)],fm:=[(2,.c (clo1 (171+1000000000) (.ptr 368 0)))]})] [] [EqvI (.c (cloRaw (171+1000000000) [.c (.ptr 368 0)])) (.c (clo1 (171+1000000000) (.ptr 368 0))),EqvD (.c (cloRaw (171+1000000000) [.c (.ptr 368 0)])) (.c (clo1 (171+1000000000) (.ptr 368 0))),(!!unlikeQ u.query)=true→inR .i64 ((8:Int)+(u.host.length:Int)),(!!unlikeQ u.query)=true→inR .i64 ((8:Int)+(u.host.length:Int)+(↑(targetU u).length:Int))] ⟨e2,e1,(fun _=>i6),(fun _=>i6)⟩ ?_
  exact zS [.c (.bool (bif !!unlikeQ u.query then decide ((8:Int)+(↑u.host.length:Int)+(↑(targetU u).length:Int)≤(1024:Int)) else false))] (by simp [*];done)
theorem printUri_ok (u:UT) (h:FitU u):Pur Tryz.prog Gp 67 [.agg (encU u)] [.c (.str (printU u))]:=by
 refine zp Tryz.func67 ?_
 have hh:=h.hh
 have ht:=targetU_len u h
 have c:=target_ok u h
 have c2:=mayUri_ok u h
 cases hm:mayU u with
 | true =>
  have hr:printU u=[104,116,116,112,115,58,47,47]++u.host++targetU u:=by unfold printU;rw [if_pos hm]
  rw [hm] at c2
  rw [hr]
  refine zg [(1,{cs:=[(1,pc c2)]}),(3,{cs:=[(4,pc c)]})] [false] [(!true)=false,8+u.host.length≤9223372036854775807,([(104:UInt8),116,116,112,115,58,47,47]++u.host).length+(targetU u).length≤(9223372036854775807:Nat)] ⟨rfl,oM,(show ([(104:UInt8),116,116,112,115,58,47,47]++u.host).length+(targetU u).length≤(9223372036854775807:Nat) from sO)⟩ ?_
  exact zr
 | false =>
  have hr:printU u=[]:=by unfold printU;rw [if_neg (by rw [hm];decide)]
  rw [hm] at c2
  rw [hr]
  refine zg [(1,{cs:=[(1,pc c2)]})] [true] [(!false)=true] rfl ?_
  exact zr
def wdT (s:List UInt8):Bool:=s.all plainB&&(decide (1≤s.length)&&decide (s.length≤128))
theorem wd_b1 (s:List UInt8):(bif bif !s==[] then decide ((s.length:Int)≤128) else false then s.all plainB else false)=wdT s:=by
 unfold wdT
 cases s with
 | nil=>rfl
 | cons a r =>
  rw [show ((!(a::r)==[])=true) from rfl,show decide (((a::r).length:Int)≤128)=decide ((a::r).length≤128) from decide_eq_decide.2 oM,show decide (1≤(a::r).length)=true from decide_eq_true (by simp)]
  cases decide ((a::r).length≤128)<;>simp
theorem wd_b2 (s:List UInt8) (h:s.all plainB=true):(bif decide ((s.length:Int)≥1) then decide ((s.length:Int)≤128) else false)=wdT s:=by
 unfold wdT
 rw [h,Bool.true_and,Bool.cond_false_right]
 congr 1<;>(apply decide_eq_decide.2;omega)
theorem word_ok {G:Nat→Option (List Cell)} (s:List UInt8) (hl:s.length<4611686018427387904):Pur Tryz.prog G 163 [.c (.str s)] [.c (.bool (wdT s))]:=by
 refine zp Tryz.func163 ?_
 rw [← wd_b1]
 refine z0 [(1,{cs:=[(9,pc (All_plain s aS))]})] [] ?_
 exact zr
theorem word6_ok {G:Nat→Option (List Cell)} (s:List UInt8) (hl:s.length<4611686018427387904):Pur Tryz.prog G 179 [.c (.str s)] [.c (.bool (wdT s))]:=by
 refine zp Tryz.func179 ?_
 refine z0 [] [] ?_
 refine zl (fun (k:Nat)=>⟨[(0,.v (.c (.str s))),(3,.v (.c (.int .i64 (k:Int))))],[],32⟩) (fun k=>k≤s.length∧s.all plainB=(s.drop k).all plainB) (fun k=>s.length-k) 0 ⟨Nat.zero_le _,rfl⟩ ?_
 intro k L ⟨hk,hq⟩ again
 rcases Nat.lt_or_ge k s.length with hlt | hge
 ·rw [dropS s k hlt,List.all_cons] at hq
  cases hp:plainB (s.getD k 0) with
  | true =>
   rw [hp,Bool.true_and] at hq
   have c:=plain6_ok (G:=G) (s.getD k 0)
   rw [hp] at c
   refine zg [(4,{cs:=[(3,pc c)]})] [true,false] [decide ((k:Int)<(s.length:Int))=true,(0:Int)≤(k:Int)∧(k:Int)<(s.length:Int),(!true)=false,inR .i64 ((k:Int)+1)] ⟨sO,oM,rfl,i6⟩ ?_
   exact za [] (again _ (k+1) ⟨aS,aS⟩ oM)
  | false =>
   rw [hp,Bool.false_and] at hq
   have hw:wdT s=false:=by unfold wdT;rw [hq];rfl
   have c:=plain6_ok (G:=G) (s.getD k 0)
   rw [hp] at c
   rw [hw]
   refine zg [(4,{cs:=[(3,pc c)]})] [true,true] [decide ((k:Int)<(s.length:Int))=true,(0:Int)≤(k:Int)∧(k:Int)<(s.length:Int),(!false)=true] ⟨sO,oM,rfl⟩ ?_
   exact zr
 ·obtain rfl:k=s.length:=by omega
  rw [List.drop_length] at hq
  rw [← wd_b2 s hq]
  refine zg [] [false] [decide ((s.length:Int)<(s.length:Int))=false] (show decide ((↑s.length:Int)<(↑s.length:Int))=false from (by simp;done)) ?_
  exact zr
def mayC (f:FT):Bool:=bif wdT f.name then wdT f.value else false
def pairC (f:FT):List UInt8:=f.name++[61]++f.value
theorem mayC_ok {G:Nat→Option (List Cell)} (f:FT) (h1:f.name.length<1000000000) (h2:f.value.length<1000000000):Pur Tryz.prog G 115 [.agg (encF f)] [.c (.bool (mayC f))]:=by
 refine zp Tryz.func115 ?_
 refine z0 [(1,{cs:=[(2,pc (word_ok f.name oM)),(6,pc (word_ok f.value oM))]})] [] ?_
 exact zr
theorem mayC14_ok {G:Nat→Option (List Cell)} (f:FT) (h1:f.name.length<1000000000) (h2:f.value.length<1000000000):Pur Tryz.prog G 131 [.agg (encF f)] [.c (.bool (mayC f))]:=by
 refine zp Tryz.func131 ?_
 refine z0 [(1,{cs:=[(2,pc (word6_ok f.name oM)),(6,pc (word6_ok f.value oM))]})] [] ?_
 exact zr
theorem pair_ok {G:Nat→Option (List Cell)} (f:FT) (h1:f.name.length<1000000000) (h2:f.value.length<1000000000):Pur Tryz.prog G 116 [.agg (encF f)] [.c (.str (pairC f))]:=by
 refine zp Tryz.func116 ?_
 refine zg [] [] [f.name.length+1≤9223372036854775807,(f.name++[(61:UInt8)]).length+f.value.length≤(9223372036854775807:Nat)] ⟨oM,(show (f.name++[(61:UInt8)]).length+f.value.length≤(9223372036854775807:Nat) from sO)⟩ ?_
 exact zr
def ageC:List UInt8:=[59,32,77,97,120,45,65,103,101,61]
def behC:List UInt8:=[59,32,80,97,116,104,61,47,59,32,83,101,99,117,114,101,59,32,72,116,116,112,79,110,108,121,59,32,83,97,109,101,83,105,116,101,61,76,97,120]
def badC (f:FT) (n:Int):Bool:=bif bif !mayC f then true else decide (n<0) then true else decide (n>1099511627776)
def setC (f:FT) (n:Int):List UInt8:=if badC f n then [] else pairC f++ageC++Lib.itoa n++behC
theorem setC_len (f:FT) (n:Int) (h1:f.name.length<1000000000) (h2:f.value.length<1000000000) (h0:0≤n) (h3:n≤1099511627776):(Lib.itoa n).length≤1099511627777∧(pairC f).length≤2000000000:=by
 obtain ⟨k,rfl⟩:=Int.eq_ofNat_of_zero_le h0
 refine ⟨Nat.le_trans (dec_len k) oM,?_⟩
 unfold pairC;simp only [List.length_append,List.length_cons,List.length_nil];omega
theorem set14_ok {G:Nat→Option (List Cell)} (f:FT) (n:Int) (h1:f.name.length<1000000000) (h2:f.value.length<1000000000):Pur Tryz.prog G 76 [.agg (encF f),.c (.int .i64 n)] [.c (.str (setC f n))]:=by
 refine zp Tryz.func76 ?_
 have c1:=mayC14_ok (G:=G) f h1 h2
 cases hb:badC f n with
 | true =>
  have hs:setC f n=[]:=by unfold setC;rw [if_pos hb]
  rw [hs]
  unfold badC at hb
  refine zg [(1,{cs:=[(1,pc c1)]})] [true] [(bif bif !mayC f then true else decide (n<(0:Int)) then true else decide (n>(1099511627776:Int)))=true] (oN aS) ?_
  exact zr
 | false =>
  have hs:setC f n=pairC f++ageC++Lib.itoa n++behC:=by unfold setC;rw [if_neg (by rw [hb];decide)]
  rw [hs]
  have hn:0≤n∧n≤1099511627776:=by
   unfold badC at hb
   have hb':=hb
   cases hm:mayC f with
   | false=>rw [hm] at hb'; cases hb'
   | true =>
    rw [hm] at hb'
    simp at hb'
    omega
  obtain ⟨l1,l2⟩:=setC_len f n h1 h2 hn.1 hn.2
  have hn1:=hn.1
  have hn2:=hn.2
  unfold badC at hb
  refine zg [(1,{cs:=[(1,pc c1)]}),(3,{cs:=[(8,pc (digits_ok n oM oM))]})] [false] [(bif bif !mayC f then true else decide (n<(0:Int)) then true else decide (n>(1099511627776:Int)))=false,f.name.length+1≤9223372036854775807,(f.name++[(61:UInt8)]).length+f.value.length≤(9223372036854775807:Nat),(f.name++[(61:UInt8)]++f.value).length+(10:Nat)≤(9223372036854775807:Nat),(f.name++[(61:UInt8)]++f.value++[(59:UInt8),32,77,97,120,45,65,103,101,61]).length+(Lib.itoa n).length≤(9223372036854775807:Nat),(f.name++[(61:UInt8)]++f.value++[(59:UInt8),32,77,97,120,45,65,103,101,61]++Lib.itoa n).length+(40:Nat)≤(9223372036854775807:Nat)] ⟨aS,oM,sO,sO,sO,(show (f.name++[(61:UInt8)]++f.value++[(59:UInt8),32,77,97,120,45,65,103,101,61]++Lib.itoa n).length+(40:Nat)≤(9223372036854775807:Nat) from sO)⟩ ?_
  exact zr
theorem itoa_gp (n:Int) (h0 : -9223372036854775808≤n) (h1:n≤9223372036854775807):Pur Tryz.prog Gp 112 [.c (.int .i64 n)] [.c (.str (Lib.itoa n))]:=lib_Itoa 3 kR rfl n h0 h1
theorem set_ok (f:FT) (n:Int) (h1:f.name.length<1000000000) (h2:f.value.length<1000000000):Pur Tryz.prog Gp 64 [.agg (encF f),.c (.int .i64 n)] [.c (.str (setC f n))]:=by
 refine zp Tryz.func64 ?_
 have c1:=mayC_ok (G:=Gp) f h1 h2
 have c2:=pair_ok (G:=Gp) f h1 h2
 cases hb:badC f n with
 | true =>
  have hs:setC f n=[]:=by unfold setC;rw [if_pos hb]
  rw [hs]
  unfold badC at hb
  refine zg [(1,{cs:=[(1,pc c1)]})] [true] [(bif bif !mayC f then true else decide (n<(0:Int)) then true else decide (n>(1099511627776:Int)))=true] (oN aS) ?_
  exact zr
 | false =>
  have hs:setC f n=pairC f++ageC++Lib.itoa n++behC:=by unfold setC;rw [if_neg (by rw [hb];decide)]
  rw [hs]
  have hn:0≤n∧n≤1099511627776:=by
   unfold badC at hb
   have hb':=hb
   cases hm:mayC f with
   | false=>rw [hm] at hb'; cases hb'
   | true =>
    rw [hm] at hb'
    simp at hb'
    omega
  obtain ⟨l1,l2⟩:=setC_len f n h1 h2 hn.1 hn.2
  have hn1:=hn.1
  have hn2:=hn.2
  unfold badC at hb
  refine zg [(1,{cs:=[(1,pc c1)]}),(3,{cs:=[(1,pc c2),(4,pc (itoa_gp n oM oM))]})] [false] [(bif bif !mayC f then true else decide (n<(0:Int)) then true else decide (n>(1099511627776:Int)))=false,(pairC f).length+10≤9223372036854775807,(pairC f++[(59:UInt8),32,77,97,120,45,65,103,101,61]).length+(Lib.itoa n).length≤(9223372036854775807:Nat),(pairC f++[(59:UInt8),32,77,97,120,45,65,103,101,61]++Lib.itoa n).length+(40:Nat)≤(9223372036854775807:Nat)] ⟨aS,oM,sO,(show (pairC f++[(59:UInt8),32,77,97,120,45,65,103,101,61]++Lib.itoa n).length+(40:Nat)≤(9223372036854775807:Nat) from sO)⟩ ?_
  exact zr
def goH (u:UT):List FT:=[⟨[108,111,99,97,116,105,111,110],printU u⟩,⟨[99,97,99,104,101,45,99,111,110,116,114,111,108],[110,111,45,115,116,111,114,101]⟩]
def goT (u:UT):RT:=⟨302,goH u,[]⟩
theorem goH_den (u:UT):EqvD (.c (.sl 2 2 (fun i j=>nthD [.str [108,111,99,97,116,105,111,110],.str (printU u),.str [99,97,99,104,101,45,99,111,110,116,114,111,108],.str [110,111,45,115,116,111,114,101]] (i*2+j)))) (.c (encH (goH u))):=enc_lit (enc:=encF) (d := .nil) (sz:=2) (fun _=>rfl) (goH u) rfl rfl
theorem go_ok (u:UT) (h:FitU u):Pur Tryz.prog Gp 17 [.agg (encU u)] [.agg (encT (goT u))]:=by
 refine zp Tryz.func17 ?_
 have c1:=printUri_ok u h
 have c2:Pur Tryz.prog Gp 65 [] [.agg [.str [99,97,99,104,101,45,99,111,110,116,114,111,108],.str [110,111,45,115,116,111,114,101]]]:=kept_ok
 have e1:=goH_den u
 refine zg [(1,{cs:=[(1,pc c1),(3,pc c2)],fm:=[(4,.c (encH (goH u)))]})] [] [EqvI (.c (.sl 2 (2:Nat) fun i j=>nthD [.str [(108:UInt8),111,99,97,116,105,111,110],.str (printU u),.str [(99:UInt8),97,99,104,101,45,99,111,110,116,114,111,108],.str [(110:UInt8),111,45,115,116,111,114,101]] (i*(2:Nat)+j))) (.c (encH (goH u))),EqvD (.c (.sl 2 (2:Nat) fun i j=>nthD [.str [(108:UInt8),111,99,97,116,105,111,110],.str (printU u),.str [(99:UInt8),97,99,104,101,45,99,111,110,116,114,111,108],.str [(110:UInt8),111,45,115,116,111,114,101]] (i*(2:Nat)+j))) (.c (encH (goH u)))] ⟨fun _ _=>trivial,(show EqvD (.c (.sl (2:Nat) (2:Nat) fun i j=>nthD [.str [(108:UInt8),111,99,97,116,105,111,110],.str (printU u),.str [(99:UInt8),97,99,104,101,45,99,111,110,116,114,111,108],.str [(110:UInt8),111,45,115,116,111,114,101]] (i*(2:Nat)+j))) (.c (encH (goH u))) from aS)⟩ ?_
 exact zr
def boolJ (b:Bool):JV := .mk 2 b 0 [] [] []
def intJ (n:Int):JV := .mk 3 false n [] [] []
theorem B_ok {G:Nat→Option (List Cell)} (b:Bool):Pur Tryz.prog G 48 [.c (.bool b)] [.agg (encJ (boolJ b))]:=by
 refine zp Tryz.func48 ?_
 have e1:EqvD (.agg [.int .i64 2,.bool b,.int .i64 0,.str [],.nilsl,.nilsl]) (.agg (encJ (boolJ b))):=agg_eqv (.cons CEq.rfl' (.cons CEq.rfl' (.cons CEq.rfl' (.cons CEq.rfl' (.cons CEq.nil (.cons CEq.nil .nil))))))
 refine zg [(1,{fm:=[(1,.agg (encJ (boolJ b)))]})] [] [EqvI (.agg [.int .i64 2,.bool b,.int .i64 0,.str [],.nilsl,.nilsl]) (.agg (encJ (boolJ b))),EqvD (.agg [.int .i64 2,.bool b,.int .i64 0,.str [],.nilsl,.nilsl]) (.agg (encJ (boolJ b)))] ⟨eqvI_flat _ _ kR,(show EqvD (.agg [.int .i64 (2:Int),.bool b,.int .i64 (0:Int),.str [],.nilsl,.nilsl]) (.agg (encJ (boolJ b))) from aS)⟩ ?_
 exact zr
theorem I_ok {G:Nat→Option (List Cell)} (n:Int):Pur Tryz.prog G 49 [.c (.int .i64 n)] [.agg (encJ (intJ n))]:=by
 refine zp Tryz.func49 ?_
 have e1:EqvD (.agg [.int .i64 3,.bool false,.int .i64 n,.str [],.nilsl,.nilsl]) (.agg (encJ (intJ n))):=agg_eqv (.cons CEq.rfl' (.cons CEq.rfl' (.cons CEq.rfl' (.cons CEq.rfl' (.cons CEq.nil (.cons CEq.nil .nil))))))
 refine zg [(1,{fm:=[(1,.agg (encJ (intJ n)))]})] [] [EqvI (.agg [.int .i64 3,.bool false,.int .i64 n,.str [],.nilsl,.nilsl]) (.agg (encJ (intJ n))),EqvD (.agg [.int .i64 3,.bool false,.int .i64 n,.str [],.nilsl,.nilsl]) (.agg (encJ (intJ n)))] ⟨eqvI_flat _ _ kR,(show EqvD (.agg [.int .i64 (3:Int),.bool false,.int .i64 n,.str [],.nilsl,.nilsl]) (.agg (encJ (intJ n))) from aS)⟩ ?_
 exact zr
theorem ownF_ok {G:Nat→Option (List Cell)} (l:List FT) (hl:l.length≤1000000000000):FnB Tryz.prog G 63 [] [.c (encH l)] [.c (.row 2 0 0 l.length)] [(0,.row 55 2 l.length (rowF encF .nil l))]:=by
 refine zf Tryz.func63 ?_
 have e1:BlkEqv (.row 55 2 l.length (cpyF 0 l.length (fun _ j=>nthD [.str [],.str []] j) (fun i j=>nthD (encF (l.getD i .nil)) j))) (.row 55 2 l.length (rowF encF .nil l)):=by
  refine BlkEqv.row_ext rfl fun i hi j hj => ?_
  unfold cpyF
  rw [if_neg oM,if_pos oM,Nat.sub_zero]
  rfl
 refine zg [(2,{bs:=[(2,.row 55 2 l.length (rowF encF .nil l))]})] [] [(0:Int)≤(l.length:Int),(l.length:Int)≤(l.length:Int),(l.length:Int)*(↑(32:Nat):Int)≤(140737488355328:Int),l.length≤l.length,0+l.length≤l.length,BlkEqv (.row 55 2 l.length fun i j=>if i<0 then nthD [.str [],.str []] j else if i<0+l.length then nthD (encF (l.getD (i-0) FT.nil)) j else nthD [.str [],.str []] j) (.row 55 2 l.length (rowF encF FT.nil l))] ⟨oM,oM,oM,oM,oM,(show BlkEqv (.row 55 (2:Nat) l.length fun i j=>if i<(0:Nat) then nthD [.str [],.str []] j else if i<(0:Nat)+l.length then nthD (encF (l.getD (i-(0:Nat)) FT.nil)) j else nthD [.str [],.str []] j) (.row 55 (2:Nat) l.length (rowF encF FT.nil l)) from aS)⟩ ?_
 exact zb [48]
def ckF (sid:List UInt8) (age:Int):FT:=⟨[115,101,116,45,99,111,111,107,105,101],setC ⟨[115,105,100],sid⟩ age⟩
def withT2 (r:RT) (sid:List UInt8) (age:Int):RT:=⟨r.status,r.head++[ckF sid age],r.body⟩
theorem with_ok (r:RT) (sid:List UInt8) (age:Int) (hl:r.head.length≤1000000) (hs:sid.length<1000000):Pur Tryz.prog Gp 15 [.agg (encT r),.c (.str sid),.c (.int .i64 age)] [.agg (encT (withT2 r sid age))]:=by
 refine zp Tryz.func15 ?_
 have c:=set_ok ⟨[115,105,100],sid⟩ age (by show 3<_;omega) (by show sid.length<_;omega)
 have e1:BlkEqv (.row 55 2 (r.head.length+1) (catF r.head.length (rowF encF .nil r.head) (fun i j=>nthD (encF (ckF sid age)) ((0+i)*2+j)))) (.row 55 2 (r.head.length+1) (rowF encF .nil (r.head++[ckF sid age]))):=enc_app r.head _ rfl
 refine zn [(1,{cs:=[(2,cb [] (ownF_ok (G:=Gp) r.head oM)),(6,pc c)],bs:=[(9,.row 55 2 (r.head.length+1) (rowF encF .nil (r.head++[ckF sid age])))]})] 4 [] [(r.head.length+1)*32≤140737488355328,BlkEqv (.row 55 2 (r.head.length+1) (catF r.head.length (rowF encF .nil r.head) (fun i j=>nthD (encF (ckF sid age)) ((0+i)*2+j)))) (.row 55 2 (r.head.length+1) (rowF encF .nil (r.head++[ckF sid age]))),r.head.length≤r.head.length,0+1≤1] ⟨by omega,e1,Nat.le_refl _,Nat.le_refl _⟩ ?_
 refine Wp.ent' kR (Ent.pubC (id:=176) (b:=0) (o:=1) (off:=0) (m:=r.head.length+1) (sz:=2) (n:=r.head.length+1) (e:=55) (e':=39) (cs:=[.int .i64 r.status,.row 2 176 0 (r.head.length+1),.str r.body]) (f:=rowF encF .nil (r.head++[ckF sid age])) (m':=(r.head++[ckF sid age]).length) (f':=fun i j=>nthD (encF ((r.head++[ckF sid age]).getD i .nil)) j) kR kR kR oM (by simp) (fun i _ j _=>by rw [Nat.zero_add];rfl) rfl) ?_
 refine z0 [] [] ?_
 exact zr
def ints8:List Int:=[0,1,7,300,-1,9007199254740992,-9007199254740992,42]
def txt11:List (List UInt8):=[[],[97],[34],[92],[0],[31],[10],[195,169],[127],[126,65,103,65,65,65,65,69,126],[104,116,116,112,115,58,47,47,97,115]]
def nam4:List (List UInt8):=[[97],[98],[],[34]]
def nullJ:JV := .mk 1 false 0 [] [] []
def leafT (ns:List Int) (k:Int) (a:Nat):JV×Nat :=
 if k=0 then (nullJ,a) else if k=1 then (boolJ (nextV ns a 2==1),nextA ns a 2)
 else if k=2∨k=3 then (intJ (ints8.getD (nextV ns a 8).toNat 0),nextA ns a 8)
 else (textJ (pickT txt11 ns a),nextA ns a 11)
def kidsT (f:Nat→JV×Nat) (ns:List Int) (obj:Bool):Nat→Nat→List (List UInt8)→List JV→List (List UInt8)×List JV×Nat
 | 0,a,nm,ks=>(nm,ks,a)
 | i+1,a,nm,ks=>kidsT f ns obj i (f (if obj then nextA ns a 4 else a)).2 (if obj then nm++[pickT nam4 ns a++[UInt8.ofNat (48+(i+1))]] else nm) (ks++[(f (if obj then nextA ns a 4 else a)).1])
def valT (ns:List Int):Nat→Nat→JV×Nat
 | 0,a=>leafT ns ((nextV ns a 9).tmod 6) (nextA ns a 9)
 | n+1,a=>if nextV ns a 9<6 then leafT ns (nextV ns a 9) (nextA ns a 9) else
  (.mk (if nextV ns a 9>6 then 6 else 5) false 0 []
   (kidsT (valT ns n) ns (decide (nextV ns a 9>6)) (nextV ns (nextA ns a 9) 4).toNat (nextA ns (nextA ns a 9) 4) [] []).1
   (kidsT (valT ns n) ns (decide (nextV ns a 9>6)) (nextV ns (nextA ns a 9) 4).toNat (nextA ns (nextA ns a 9) 4) [] []).2.1,
   (kidsT (valT ns n) ns (decide (nextV ns a 9>6)) (nextV ns (nextA ns a 9) 4).toNat (nextA ns (nextA ns a 9) 4) [] []).2.2)
theorem null_den:EqvD (.agg [.int .i64 1,.bool false,.int .i64 0,.str [],.nilsl,.nilsl]) (.agg (encJ nullJ)):=agg_eqv (.cons CEq.rfl' (.cons CEq.rfl' (.cons CEq.rfl' (.cons CEq.rfl' (.cons CEq.nil (.cons CEq.nil .nil))))))
theorem ints8_den:EqvD (.c (.sl 1 8 (fun i j=>nthD [.int .i64 0,.int .i64 1,.int .i64 7,.int .i64 300,.int .i64 (-1),.int .i64 9007199254740992,.int .i64 (-9007199254740992),.int .i64 42] (i*1+j)))) (.c (.sl 1 ints8.length (intsF ints8))):=by
 refine EqvD.sl rfl fun i hi j hj => ?_
 obtain rfl:j=0:=by omega
 have:i=0∨i=1∨i=2∨i=3∨i=4∨i=5∨i=6∨i=7:=by omega
 rcases this with rfl | rfl | rfl | rfl | rfl | rfl | rfl | rfl<;>rfl
theorem val_zero (ns:List Int) (hl:ns.length≤9223372036854775807) (a:Nat):FnB Tryz.prog G 9 [tapeB ns a] [.c (.ptr 0 0),.c (.int .i64 0)] [.agg (encJ (valT ns 0 a).1)] [(0,tapeB ns (valT ns 0 a).2)]:=by
 refine zf Tryz.func9 ?_
 have r9:=nextV_rng ns a 9 dC
 have r8:0≤nextV ns (nextA ns a 9) 8∧nextV ns (nextA ns a 9) 8<((ints8.length:Nat):Int):=nextV_rng ns (nextA ns a 9) 8 dC
 have m0:0≤(nextV ns a 9).tmod 6:=Int.tmod_nonneg 6 r9.1
 have m6:(nextV ns a 9).tmod 6<6:=Int.tmod_lt_of_pos _ dC
 have e1:=null_den
 have e2:=ints8_den
 have e3:EqvD (.c (.sl 1 11 (fun i j=>nthD [Cell.str [],Cell.str [97],Cell.str [34],Cell.str [92],Cell.str [0],Cell.str [31],Cell.str [10],Cell.str [195,169],Cell.str [127],Cell.str [126,65,103,65,65,65,65,69,126],Cell.str [104,116,116,112,115,58,47,47,97,115]] (i*1+j)))) (.c (.sl 1 txt11.length (strsF txt11))):=strs_lit txt11 rfl rfl
 have hv:valT ns 0 a=leafT ns ((nextV ns a 9).tmod 6) (nextA ns a 9):=rfl
 rw [hv]
 have hk:(nextV ns a 9).tmod 6=0∨(nextV ns a 9).tmod 6=1∨(nextV ns a 9).tmod 6=2∨(nextV ns a 9).tmod 6=3∨(nextV ns a 9).tmod 6=4∨(nextV ns a 9).tmod 6=5:=by omega
 clear hv
 rcases hk with hk | hk | hk | hk | hk | hk
 ·have hw:leafT ns ((nextV ns a 9).tmod 6) (nextA ns a 9)=(nullJ,nextA ns a 9):=by rw [hk];rfl
  rw [hw]
  clear hw
  refine zg [(6,{fm:=[(0,.agg (encJ nullJ))]}),(11,{fm:=[(0,.c (.sl 1 ints8.length (intsF ints8)))]}),(14,{fm:=[(1,.c (.sl 1 txt11.length (strsF txt11)))]}),(1,{cs:=[(1,cb [0] (next_ok ns a (9:Int) aS oM))]})] [true,true] [decide ((0:Int)≤(0:Int))=true,(6:Int)≠(0:Int),((nextV ns a (9:Int)).tmod (6:Int)==(0:Int))=true,EqvI (.agg [.int .i64 1,.bool false,.int .i64 0,.str [],.nilsl,.nilsl]) (.agg (encJ nullJ)),EqvD (.agg [.int .i64 1,.bool false,.int .i64 0,.str [],.nilsl,.nilsl]) (.agg (encJ nullJ))] ⟨rfl,oM,sO,eqvI_flat _ _ kR,(show EqvD (.agg [.int .i64 (1:Int),.bool false,.int .i64 (0:Int),.str [],.nilsl,.nilsl]) (.agg (encJ nullJ)) from aS)⟩ ?_
  exact zb []
 ·have hw:leafT ns ((nextV ns a 9).tmod 6) (nextA ns a 9)=(boolJ (nextV ns (nextA ns a 9) 2==1),nextA ns (nextA ns a 9) 2):=by rw [hk];rfl
  rw [hw]
  clear hw
  refine zg [(6,{fm:=[(0,.agg (encJ nullJ))]}),(11,{fm:=[(0,.c (.sl 1 ints8.length (intsF ints8)))]}),(14,{fm:=[(1,.c (.sl 1 txt11.length (strsF txt11)))]}),(1,{cs:=[(1,cb [0] (next_ok ns a (9:Int) aS oM))]}),(8,{cs:=[(1,cb [0] (next_ok ns (nextA ns a (9:Int)) (2:Int) aS oM)),(3,pc (B_ok (nextV ns (nextA ns a (9:Int)) (2:Int)==(1:Int))))]})] [true,false,true] [decide ((0:Int)≤(0:Int))=true,(6:Int)≠(0:Int),((nextV ns a (9:Int)).tmod (6:Int)==(0:Int))=false,((nextV ns a (9:Int)).tmod (6:Int)==(1:Int))=true] ⟨rfl,oM,sO,(show ((nextV ns a (9:Int)).tmod (6:Int)==(1:Int))=true from sO)⟩ ?_
  exact zb []
 ·have hw:leafT ns ((nextV ns a 9).tmod 6) (nextA ns a 9)=(intJ (ints8.getD (nextV ns (nextA ns a 9) 8).toNat 0),nextA ns (nextA ns a 9) 8):=by rw [hk];rfl
  rw [hw]
  clear hw
  refine zg [(6,{fm:=[(0,.agg (encJ nullJ))]}),(11,{cs:=[(2,cb [0] (next_ok ns (nextA ns a (9:Int)) (8:Int) aS oM)),(5,pc (I_ok (ints8.getD (nextV ns (nextA ns a (9:Int)) (8:Int)).toNat (0:Int))))],fm:=[(0,.c (.sl 1 ints8.length (intsF ints8)))]}),(14,{fm:=[(1,.c (.sl 1 txt11.length (strsF txt11)))]}),(1,{cs:=[(1,cb [0] (next_ok ns a (9:Int) aS oM))]})] [true,false,false,true,true] [decide ((0:Int)≤(0:Int))=true,(6:Int)≠(0:Int),((nextV ns a (9:Int)).tmod (6:Int)==(0:Int))=false,((nextV ns a (9:Int)).tmod (6:Int)==(1:Int))=false,((nextV ns a (9:Int)).tmod (6:Int)==(2:Int))=true,((nextV ns a (9:Int)).tmod (6:Int)==(2:Int))=true,EqvI (.c (.sl 1 (8:Nat) fun i j=>nthD [.int .i64 0,.int .i64 1,.int .i64 7,.int .i64 300,.int .i64 (-1:Int),.int .i64 9007199254740992,.int .i64 (-9007199254740992:Int),.int .i64 42] (i*(1:Nat)+j))) (.c (.sl 1 ints8.length (intsF ints8))),EqvD (.c (.sl 1 (8:Nat) fun i j=>nthD [.int .i64 0,.int .i64 1,.int .i64 7,.int .i64 300,.int .i64 (-1:Int),.int .i64 9007199254740992,.int .i64 (-9007199254740992:Int),.int .i64 42] (i*(1:Nat)+j))) (.c (.sl 1 ints8.length (intsF ints8))),(0:Int)≤nextV ns (nextA ns a (9:Int)) (8:Int)∧nextV ns (nextA ns a (9:Int)) (8:Int)<(ints8.length:Int)] ⟨rfl,oM,sO,sO,sO,sO,fun _ _=>trivial,aS,(show (0:Int)≤nextV ns (nextA ns a (9:Int)) (8:Int)∧nextV ns (nextA ns a (9:Int)) (8:Int)<(↑ints8.length:Int) from oM)⟩ ?_
  exact zb []
 ·have hw:leafT ns ((nextV ns a 9).tmod 6) (nextA ns a 9)=(intJ (ints8.getD (nextV ns (nextA ns a 9) 8).toNat 0),nextA ns (nextA ns a 9) 8):=by rw [hk];rfl
  rw [hw]
  clear hw
  refine zg [(6,{fm:=[(0,.agg (encJ nullJ))]}),(11,{cs:=[(2,cb [0] (next_ok ns (nextA ns a (9:Int)) (8:Int) aS oM)),(5,pc (I_ok (ints8.getD (nextV ns (nextA ns a (9:Int)) (8:Int)).toNat (0:Int))))],fm:=[(0,.c (.sl 1 ints8.length (intsF ints8)))]}),(14,{fm:=[(1,.c (.sl 1 txt11.length (strsF txt11)))]}),(1,{cs:=[(1,cb [0] (next_ok ns a (9:Int) aS oM))]})] [true,false,false,false,true] [decide ((0:Int)≤(0:Int))=true,(6:Int)≠(0:Int),((nextV ns a (9:Int)).tmod (6:Int)==(0:Int))=false,((nextV ns a (9:Int)).tmod (6:Int)==(1:Int))=false,((nextV ns a (9:Int)).tmod (6:Int)==(2:Int))=false,((nextV ns a (9:Int)).tmod (6:Int)==(3:Int))=true,EqvI (.c (.sl 1 (8:Nat) fun i j=>nthD [.int .i64 0,.int .i64 1,.int .i64 7,.int .i64 300,.int .i64 (-1:Int),.int .i64 9007199254740992,.int .i64 (-9007199254740992:Int),.int .i64 42] (i*(1:Nat)+j))) (.c (.sl 1 ints8.length (intsF ints8))),EqvD (.c (.sl 1 (8:Nat) fun i j=>nthD [.int .i64 0,.int .i64 1,.int .i64 7,.int .i64 300,.int .i64 (-1:Int),.int .i64 9007199254740992,.int .i64 (-9007199254740992:Int),.int .i64 42] (i*(1:Nat)+j))) (.c (.sl 1 ints8.length (intsF ints8))),(0:Int)≤nextV ns (nextA ns a (9:Int)) (8:Int)∧nextV ns (nextA ns a (9:Int)) (8:Int)<(ints8.length:Int)] ⟨rfl,oM,sO,sO,sO,sO,fun _ _=>trivial,aS,(show (0:Int)≤nextV ns (nextA ns a (9:Int)) (8:Int)∧nextV ns (nextA ns a (9:Int)) (8:Int)<(↑ints8.length:Int) from oM)⟩ ?_
  exact zb []
 ·have hw:leafT ns ((nextV ns a 9).tmod 6) (nextA ns a 9)=(textJ (pickT txt11 ns (nextA ns a 9)),nextA ns (nextA ns a 9) 11):=by rw [hk];rfl
  rw [hw]
  clear hw
  refine zg [(6,{fm:=[(0,.agg (encJ nullJ))]}),(11,{fm:=[(0,.c (.sl 1 ints8.length (intsF ints8)))]}),(14,{cs:=[(2,cb [0] (pick_ok txt11 ns (nextA ns a (9:Int)) aS dC)),(3,pc (S_ok (txt11.getD (nextV ns (nextA ns a (9:Int)) (txt11.length:Int)).toNat [])))],fm:=[(1,.c (.sl 1 txt11.length (strsF txt11)))]}),(1,{cs:=[(1,cb [0] (next_ok ns a (9:Int) aS oM))]})] [true,false,false,false,false,true,true] [decide ((0:Int)≤(0:Int))=true,(6:Int)≠(0:Int),((nextV ns a (9:Int)).tmod (6:Int)==(0:Int))=false,((nextV ns a (9:Int)).tmod (6:Int)==(1:Int))=false,((nextV ns a (9:Int)).tmod (6:Int)==(2:Int))=false,((nextV ns a (9:Int)).tmod (6:Int)==(3:Int))=false,((nextV ns a (9:Int)).tmod (6:Int)==(4:Int))=true,((nextV ns a (9:Int)).tmod (6:Int)==(4:Int))=true,EqvI (.c (.sl 1 (11:Nat) fun i j=>nthD [.str [],.str [(97:UInt8)],.str [(34:UInt8)],.str [(92:UInt8)],.str [(0:UInt8)],.str [(31:UInt8)],.str [(10:UInt8)],.str [(195:UInt8),169],.str [(127:UInt8)],.str [(126:UInt8),65,103,65,65,65,65,69,126],.str [(104:UInt8),116,116,112,115,58,47,47,97,115]] (i*(1:Nat)+j))) (.c (.sl 1 txt11.length (strsF txt11))),EqvD (.c (.sl 1 (11:Nat) fun i j=>nthD [.str [],.str [(97:UInt8)],.str [(34:UInt8)],.str [(92:UInt8)],.str [(0:UInt8)],.str [(31:UInt8)],.str [(10:UInt8)],.str [(195:UInt8),169],.str [(127:UInt8)],.str [(126:UInt8),65,103,65,65,65,65,69,126],.str [(104:UInt8),116,116,112,115,58,47,47,97,115]] (i*(1:Nat)+j))) (.c (.sl 1 txt11.length (strsF txt11)))] ⟨rfl,oM,sO,sO,sO,sO,sO,sO,fun _ _=>trivial,(show EqvD (.c (.sl (1:Nat) (11:Nat) fun i j=>nthD [.str [],.str [(97:UInt8)],.str [(34:UInt8)],.str [(92:UInt8)],.str [(0:UInt8)],.str [(31:UInt8)],.str [(10:UInt8)],.str [(195:UInt8),169],.str [(127:UInt8)],.str [(126:UInt8),65,103,65,65,65,65,69,126],.str [(104:UInt8),116,116,112,115,58,47,47,97,115]] (i*(1:Nat)+j))) (.c (.sl (1:Nat) txt11.length (strsF txt11))) from aS)⟩ ?_
  exact zb []
 ·have hw:leafT ns ((nextV ns a 9).tmod 6) (nextA ns a 9)=(textJ (pickT txt11 ns (nextA ns a 9)),nextA ns (nextA ns a 9) 11):=by rw [hk];rfl
  rw [hw]
  clear hw
  refine zg [(6,{fm:=[(0,.agg (encJ nullJ))]}),(11,{fm:=[(0,.c (.sl 1 ints8.length (intsF ints8)))]}),(14,{cs:=[(2,cb [0] (pick_ok txt11 ns (nextA ns a (9:Int)) aS dC)),(3,pc (S_ok (txt11.getD (nextV ns (nextA ns a (9:Int)) (txt11.length:Int)).toNat [])))],fm:=[(1,.c (.sl 1 txt11.length (strsF txt11)))]}),(1,{cs:=[(1,cb [0] (next_ok ns a (9:Int) aS oM))]})] [true,false,false,false,false,false,true] [decide ((0:Int)≤(0:Int))=true,(6:Int)≠(0:Int),((nextV ns a (9:Int)).tmod (6:Int)==(0:Int))=false,((nextV ns a (9:Int)).tmod (6:Int)==(1:Int))=false,((nextV ns a (9:Int)).tmod (6:Int)==(2:Int))=false,((nextV ns a (9:Int)).tmod (6:Int)==(3:Int))=false,((nextV ns a (9:Int)).tmod (6:Int)==(4:Int))=false,((nextV ns a (9:Int)).tmod (6:Int)==(5:Int))=true,EqvI (.c (.sl 1 (11:Nat) fun i j=>nthD [.str [],.str [(97:UInt8)],.str [(34:UInt8)],.str [(92:UInt8)],.str [(0:UInt8)],.str [(31:UInt8)],.str [(10:UInt8)],.str [(195:UInt8),169],.str [(127:UInt8)],.str [(126:UInt8),65,103,65,65,65,65,69,126],.str [(104:UInt8),116,116,112,115,58,47,47,97,115]] (i*(1:Nat)+j))) (.c (.sl 1 txt11.length (strsF txt11))),EqvD (.c (.sl 1 (11:Nat) fun i j=>nthD [.str [],.str [(97:UInt8)],.str [(34:UInt8)],.str [(92:UInt8)],.str [(0:UInt8)],.str [(31:UInt8)],.str [(10:UInt8)],.str [(195:UInt8),169],.str [(127:UInt8)],.str [(126:UInt8),65,103,65,65,65,65,69,126],.str [(104:UInt8),116,116,112,115,58,47,47,97,115]] (i*(1:Nat)+j))) (.c (.sl 1 txt11.length (strsF txt11)))] ⟨rfl,oM,sO,sO,sO,sO,sO,sO,fun _ _=>trivial,(show EqvD (.c (.sl (1:Nat) (11:Nat) fun i j=>nthD [.str [],.str [(97:UInt8)],.str [(34:UInt8)],.str [(92:UInt8)],.str [(0:UInt8)],.str [(31:UInt8)],.str [(10:UInt8)],.str [(195:UInt8),169],.str [(127:UInt8)],.str [(126:UInt8),65,103,65,65,65,65,69,126],.str [(104:UInt8),116,116,112,115,58,47,47,97,115]] (i*(1:Nat)+j))) (.c (.sl (1:Nat) txt11.length (strsF txt11))) from aS)⟩ ?_
  exact zb []
theorem val_leaf (ns:List Int) (hl:ns.length≤9223372036854775807) (a:Nat) (n:Nat) (h6:nextV ns a 9<6):FnB Tryz.prog G 9 [tapeB ns a] [.c (.ptr 0 0),.c (.int .i64 ((n+1:Nat):Int))] [.agg (encJ (valT ns (n+1) a).1)] [(0,tapeB ns (valT ns (n+1) a).2)]:=by
 refine zf Tryz.func9 ?_
 have r9:=nextV_rng ns a 9 dC
 have r8:0≤nextV ns (nextA ns a 9) 8∧nextV ns (nextA ns a 9) 8<((ints8.length:Nat):Int):=nextV_rng ns (nextA ns a 9) 8 dC
 have e1:=null_den
 have e2:=ints8_den
 have e3:EqvD (.c (.sl 1 11 (fun i j=>nthD [Cell.str [],Cell.str [97],Cell.str [34],Cell.str [92],Cell.str [0],Cell.str [31],Cell.str [10],Cell.str [195,169],Cell.str [127],Cell.str [126,65,103,65,65,65,65,69,126],Cell.str [104,116,116,112,115,58,47,47,97,115]] (i*1+j)))) (.c (.sl 1 txt11.length (strsF txt11))):=strs_lit txt11 rfl rfl
 have hv:valT ns (n+1) a=leafT ns (nextV ns a 9) (nextA ns a 9):=by rw [valT,if_pos h6]
 rw [hv]
 have hk:nextV ns a 9=0∨nextV ns a 9=1∨nextV ns a 9=2∨nextV ns a 9=3∨nextV ns a 9=4∨nextV ns a 9=5:=by omega
 clear hv
 rcases hk with hk | hk | hk | hk | hk | hk
 ·have hw:leafT ns (nextV ns a 9) (nextA ns a 9)=(nullJ,nextA ns a 9):=by rw [hk];rfl
  rw [hw]
  clear hw
  refine zg [(6,{fm:=[(0,.agg (encJ nullJ))]}),(11,{fm:=[(0,.c (.sl 1 ints8.length (intsF ints8)))]}),(14,{fm:=[(1,.c (.sl 1 txt11.length (strsF txt11)))]}),(1,{cs:=[(1,cb [0] (next_ok ns a (9:Int) aS oM))]})] [false,true] [decide ((↑(n+(1:Nat)):Int)≤(0:Int))=false,(nextV ns a (9:Int)==(0:Int))=true,EqvI (.agg [.int .i64 1,.bool false,.int .i64 0,.str [],.nilsl,.nilsl]) (.agg (encJ nullJ)),EqvD (.agg [.int .i64 1,.bool false,.int .i64 0,.str [],.nilsl,.nilsl]) (.agg (encJ nullJ))] ⟨rfl,sO,eqvI_flat _ _ kR,(show EqvD (.agg [.int .i64 (1:Int),.bool false,.int .i64 (0:Int),.str [],.nilsl,.nilsl]) (.agg (encJ nullJ)) from aS)⟩ ?_
  exact zb []
 ·have hw:leafT ns (nextV ns a 9) (nextA ns a 9)=(boolJ (nextV ns (nextA ns a 9) 2==1),nextA ns (nextA ns a 9) 2):=by rw [hk];rfl
  rw [hw]
  clear hw
  refine zg [(6,{fm:=[(0,.agg (encJ nullJ))]}),(11,{fm:=[(0,.c (.sl 1 ints8.length (intsF ints8)))]}),(14,{fm:=[(1,.c (.sl 1 txt11.length (strsF txt11)))]}),(1,{cs:=[(1,cb [0] (next_ok ns a (9:Int) aS oM))]}),(8,{cs:=[(1,cb [0] (next_ok ns (nextA ns a (9:Int)) (2:Int) aS oM)),(3,pc (B_ok (nextV ns (nextA ns a (9:Int)) (2:Int)==(1:Int))))]})] [false,false,true] [decide ((↑(n+(1:Nat)):Int)≤(0:Int))=false,(nextV ns a (9:Int)==(0:Int))=false,(nextV ns a (9:Int)==(1:Int))=true] ⟨rfl,sO,(show (nextV ns a (9:Int)==(1:Int))=true from sO)⟩ ?_
  exact zb []
 ·have hw:leafT ns (nextV ns a 9) (nextA ns a 9)=(intJ (ints8.getD (nextV ns (nextA ns a 9) 8).toNat 0),nextA ns (nextA ns a 9) 8):=by rw [hk];rfl
  rw [hw]
  clear hw
  refine zg [(6,{fm:=[(0,.agg (encJ nullJ))]}),(11,{cs:=[(2,cb [0] (next_ok ns (nextA ns a (9:Int)) (8:Int) aS oM)),(5,pc (I_ok (ints8.getD (nextV ns (nextA ns a (9:Int)) (8:Int)).toNat (0:Int))))],fm:=[(0,.c (.sl 1 ints8.length (intsF ints8)))]}),(14,{fm:=[(1,.c (.sl 1 txt11.length (strsF txt11)))]}),(1,{cs:=[(1,cb [0] (next_ok ns a (9:Int) aS oM))]})] [false,false,false,true,true] [decide ((↑(n+(1:Nat)):Int)≤(0:Int))=false,(nextV ns a (9:Int)==(0:Int))=false,(nextV ns a (9:Int)==(1:Int))=false,(nextV ns a (9:Int)==(2:Int))=true,(nextV ns a (9:Int)==(2:Int))=true,EqvI (.c (.sl 1 (8:Nat) fun i j=>nthD [.int .i64 0,.int .i64 1,.int .i64 7,.int .i64 300,.int .i64 (-1:Int),.int .i64 9007199254740992,.int .i64 (-9007199254740992:Int),.int .i64 42] (i*(1:Nat)+j))) (.c (.sl 1 ints8.length (intsF ints8))),EqvD (.c (.sl 1 (8:Nat) fun i j=>nthD [.int .i64 0,.int .i64 1,.int .i64 7,.int .i64 300,.int .i64 (-1:Int),.int .i64 9007199254740992,.int .i64 (-9007199254740992:Int),.int .i64 42] (i*(1:Nat)+j))) (.c (.sl 1 ints8.length (intsF ints8))),(0:Int)≤nextV ns (nextA ns a (9:Int)) (8:Int)∧nextV ns (nextA ns a (9:Int)) (8:Int)<(ints8.length:Int)] ⟨rfl,sO,sO,sO,sO,fun _ _=>trivial,aS,(show (0:Int)≤nextV ns (nextA ns a (9:Int)) (8:Int)∧nextV ns (nextA ns a (9:Int)) (8:Int)<(↑ints8.length:Int) from oM)⟩ ?_
  exact zb []
 ·have hw:leafT ns (nextV ns a 9) (nextA ns a 9)=(intJ (ints8.getD (nextV ns (nextA ns a 9) 8).toNat 0),nextA ns (nextA ns a 9) 8):=by rw [hk];rfl
  rw [hw]
  clear hw
  refine zg [(6,{fm:=[(0,.agg (encJ nullJ))]}),(11,{cs:=[(2,cb [0] (next_ok ns (nextA ns a (9:Int)) (8:Int) aS oM)),(5,pc (I_ok (ints8.getD (nextV ns (nextA ns a (9:Int)) (8:Int)).toNat (0:Int))))],fm:=[(0,.c (.sl 1 ints8.length (intsF ints8)))]}),(14,{fm:=[(1,.c (.sl 1 txt11.length (strsF txt11)))]}),(1,{cs:=[(1,cb [0] (next_ok ns a (9:Int) aS oM))]})] [false,false,false,false,true] [decide ((↑(n+(1:Nat)):Int)≤(0:Int))=false,(nextV ns a (9:Int)==(0:Int))=false,(nextV ns a (9:Int)==(1:Int))=false,(nextV ns a (9:Int)==(2:Int))=false,(nextV ns a (9:Int)==(3:Int))=true,EqvI (.c (.sl 1 (8:Nat) fun i j=>nthD [.int .i64 0,.int .i64 1,.int .i64 7,.int .i64 300,.int .i64 (-1:Int),.int .i64 9007199254740992,.int .i64 (-9007199254740992:Int),.int .i64 42] (i*(1:Nat)+j))) (.c (.sl 1 ints8.length (intsF ints8))),EqvD (.c (.sl 1 (8:Nat) fun i j=>nthD [.int .i64 0,.int .i64 1,.int .i64 7,.int .i64 300,.int .i64 (-1:Int),.int .i64 9007199254740992,.int .i64 (-9007199254740992:Int),.int .i64 42] (i*(1:Nat)+j))) (.c (.sl 1 ints8.length (intsF ints8))),(0:Int)≤nextV ns (nextA ns a (9:Int)) (8:Int)∧nextV ns (nextA ns a (9:Int)) (8:Int)<(ints8.length:Int)] ⟨rfl,sO,sO,sO,sO,fun _ _=>trivial,aS,(show (0:Int)≤nextV ns (nextA ns a (9:Int)) (8:Int)∧nextV ns (nextA ns a (9:Int)) (8:Int)<(↑ints8.length:Int) from oM)⟩ ?_
  exact zb []
 ·have hw:leafT ns (nextV ns a 9) (nextA ns a 9)=(textJ (pickT txt11 ns (nextA ns a 9)),nextA ns (nextA ns a 9) 11):=by rw [hk];rfl
  rw [hw]
  clear hw
  refine zg [(6,{fm:=[(0,.agg (encJ nullJ))]}),(11,{fm:=[(0,.c (.sl 1 ints8.length (intsF ints8)))]}),(14,{cs:=[(2,cb [0] (pick_ok txt11 ns (nextA ns a (9:Int)) aS dC)),(3,pc (S_ok (txt11.getD (nextV ns (nextA ns a (9:Int)) (txt11.length:Int)).toNat [])))],fm:=[(1,.c (.sl 1 txt11.length (strsF txt11)))]}),(1,{cs:=[(1,cb [0] (next_ok ns a (9:Int) aS oM))]})] [false,false,false,false,false,true,true] [decide ((↑(n+(1:Nat)):Int)≤(0:Int))=false,(nextV ns a (9:Int)==(0:Int))=false,(nextV ns a (9:Int)==(1:Int))=false,(nextV ns a (9:Int)==(2:Int))=false,(nextV ns a (9:Int)==(3:Int))=false,(nextV ns a (9:Int)==(4:Int))=true,(nextV ns a (9:Int)==(4:Int))=true,EqvI (.c (.sl 1 (11:Nat) fun i j=>nthD [.str [],.str [(97:UInt8)],.str [(34:UInt8)],.str [(92:UInt8)],.str [(0:UInt8)],.str [(31:UInt8)],.str [(10:UInt8)],.str [(195:UInt8),169],.str [(127:UInt8)],.str [(126:UInt8),65,103,65,65,65,65,69,126],.str [(104:UInt8),116,116,112,115,58,47,47,97,115]] (i*(1:Nat)+j))) (.c (.sl 1 txt11.length (strsF txt11))),EqvD (.c (.sl 1 (11:Nat) fun i j=>nthD [.str [],.str [(97:UInt8)],.str [(34:UInt8)],.str [(92:UInt8)],.str [(0:UInt8)],.str [(31:UInt8)],.str [(10:UInt8)],.str [(195:UInt8),169],.str [(127:UInt8)],.str [(126:UInt8),65,103,65,65,65,65,69,126],.str [(104:UInt8),116,116,112,115,58,47,47,97,115]] (i*(1:Nat)+j))) (.c (.sl 1 txt11.length (strsF txt11)))] ⟨rfl,sO,sO,sO,sO,sO,sO,fun _ _=>trivial,(show EqvD (.c (.sl (1:Nat) (11:Nat) fun i j=>nthD [.str [],.str [(97:UInt8)],.str [(34:UInt8)],.str [(92:UInt8)],.str [(0:UInt8)],.str [(31:UInt8)],.str [(10:UInt8)],.str [(195:UInt8),169],.str [(127:UInt8)],.str [(126:UInt8),65,103,65,65,65,65,69,126],.str [(104:UInt8),116,116,112,115,58,47,47,97,115]] (i*(1:Nat)+j))) (.c (.sl (1:Nat) txt11.length (strsF txt11))) from aS)⟩ ?_
  exact zb []
 ·have hw:leafT ns (nextV ns a 9) (nextA ns a 9)=(textJ (pickT txt11 ns (nextA ns a 9)),nextA ns (nextA ns a 9) 11):=by rw [hk];rfl
  rw [hw]
  clear hw
  refine zg [(6,{fm:=[(0,.agg (encJ nullJ))]}),(11,{fm:=[(0,.c (.sl 1 ints8.length (intsF ints8)))]}),(14,{cs:=[(2,cb [0] (pick_ok txt11 ns (nextA ns a (9:Int)) aS dC)),(3,pc (S_ok (txt11.getD (nextV ns (nextA ns a (9:Int)) (txt11.length:Int)).toNat [])))],fm:=[(1,.c (.sl 1 txt11.length (strsF txt11)))]}),(1,{cs:=[(1,cb [0] (next_ok ns a (9:Int) aS oM))]})] [false,false,false,false,false,false,true] [decide ((↑(n+(1:Nat)):Int)≤(0:Int))=false,(nextV ns a (9:Int)==(0:Int))=false,(nextV ns a (9:Int)==(1:Int))=false,(nextV ns a (9:Int)==(2:Int))=false,(nextV ns a (9:Int)==(3:Int))=false,(nextV ns a (9:Int)==(4:Int))=false,(nextV ns a (9:Int)==(5:Int))=true,EqvI (.c (.sl 1 (11:Nat) fun i j=>nthD [.str [],.str [(97:UInt8)],.str [(34:UInt8)],.str [(92:UInt8)],.str [(0:UInt8)],.str [(31:UInt8)],.str [(10:UInt8)],.str [(195:UInt8),169],.str [(127:UInt8)],.str [(126:UInt8),65,103,65,65,65,65,69,126],.str [(104:UInt8),116,116,112,115,58,47,47,97,115]] (i*(1:Nat)+j))) (.c (.sl 1 txt11.length (strsF txt11))),EqvD (.c (.sl 1 (11:Nat) fun i j=>nthD [.str [],.str [(97:UInt8)],.str [(34:UInt8)],.str [(92:UInt8)],.str [(0:UInt8)],.str [(31:UInt8)],.str [(10:UInt8)],.str [(195:UInt8),169],.str [(127:UInt8)],.str [(126:UInt8),65,103,65,65,65,65,69,126],.str [(104:UInt8),116,116,112,115,58,47,47,97,115]] (i*(1:Nat)+j))) (.c (.sl 1 txt11.length (strsF txt11)))] ⟨rfl,sO,sO,sO,sO,sO,sO,fun _ _=>trivial,(show EqvD (.c (.sl (1:Nat) (11:Nat) fun i j=>nthD [.str [],.str [(97:UInt8)],.str [(34:UInt8)],.str [(92:UInt8)],.str [(0:UInt8)],.str [(31:UInt8)],.str [(10:UInt8)],.str [(195:UInt8),169],.str [(127:UInt8)],.str [(126:UInt8),65,103,65,65,65,65,69,126],.str [(104:UInt8),116,116,112,115,58,47,47,97,115]] (i*(1:Nat)+j))) (.c (.sl (1:Nat) txt11.length (strsF txt11))) from aS)⟩ ?_
  exact zb []
theorem kid_pub (ks:List JV) {k:Nat} (hk:k=ks.length):∀ i,i<k→∀ j,j<6→rowF encJ .nil ks (0+i) j=kidC ks i j:=by
 intro i hi j hj
 unfold rowF kidC
 rw [Nat.zero_add,cellsL_eq ks i oM]
theorem pick_mem4 (ns:List Int) (a:Nat):pickT nam4 ns a∈nam4:=by
 have h1:=nextV_rng ns a nam4.length dC
 unfold pickT
 rw [List.getD_eq_getElem?_getD,List.getElem?_eq_getElem oM]
 exact List.getElem_mem _
theorem val_list (ns:List Int) (hl:ns.length≤9223372036854775807) (a:Nat) (n:Nat) (hn:n≤1000) (h6:nextV ns a 9=6) (ih:∀ a,FnB Tryz.prog G 9 [tapeB ns a] [.c (.ptr 0 0),.c (.int .i64 (n:Int))] [.agg (encJ (valT ns n a).1)] [(0,tapeB ns (valT ns n a).2)]) :
  FnB Tryz.prog G 9 [tapeB ns a] [.c (.ptr 0 0),.c (.int .i64 ((n+1:Nat):Int))] [.agg (encJ (valT ns (n+1) a).1)] [(0,tapeB ns (valT ns (n+1) a).2)]:=by
 refine zf Tryz.func9 ?_
 have r9:=nextV_rng ns a 9 dC
 have r4:=nextV_rng ns (nextA ns a 9) 4 dC
 obtain ⟨m,hm⟩:=Int.eq_ofNat_of_zero_le r4.1
 have hm4:m<4:=by omega
 have c4:FnB Tryz.prog G 47 [tapeB ns (nextA ns a 9)] [.c (.ptr 0 0),.c (.int .i64 4)] [.c (.int .i64 (m:Int))] [(0,tapeB ns (nextA ns (nextA ns a 9) 4))]:=by
  have:=next_ok (G:=G) ns (nextA ns a 9) 4 hl dC
  rwa [hm] at this
 have hv:valT ns (n+1) a=(.mk 5 false 0 [] (kidsT (valT ns n) ns false m (nextA ns (nextA ns a 9) 4) [] []).1 (kidsT (valT ns n) ns false m (nextA ns (nextA ns a 9) 4) [] []).2.1,(kidsT (valT ns n) ns false m (nextA ns (nextA ns a 9) 4) [] []).2.2):=by
  rw [valT,if_neg oM,hm]
  rw [if_neg oM,decide_eq_false oM]
  rfl
 rw [hv]
 clear hv
 generalize hR:kidsT (valT ns n) ns false m (nextA ns (nextA ns a 9) 4) [] []=R
 refine zg [(1,{cs:=[(1,cb [0] (next_ok ns a (9:Int) aS oM))]}),(18,{cs:=[(1,cb [0] c4)]})] [false,false,false,false,false,false,false,false] [decide ((↑(n+(1:Nat)):Int)≤(0:Int))=false,(nextV ns a (9:Int)==(0:Int))=false,(nextV ns a (9:Int)==(1:Int))=false,(nextV ns a (9:Int)==(2:Int))=false,(nextV ns a (9:Int)==(3:Int))=false,(nextV ns a (9:Int)==(4:Int))=false,(nextV ns a (9:Int)==(5:Int))=false,decide (nextV ns a (9:Int)>(6:Int))=false] ⟨rfl,sO,sO,sO,sO,sO,sO,(show decide (nextV ns a (9:Int)>(6:Int))=false from sO)⟩ ?_
 refine Wp.loopK kR (fun (x:Nat×Nat×Nat×List (List UInt8)×Nat×List JV)=>⟨[(0,TV.v (V1.c (Cell.ptr 0 0))),(1,TV.v (V1.c (Cell.int .i64 ((n+1:Nat):Int)))),(4,TV.v (V1.c (Cell.ptr 1 0))),(6,TV.v (V1.c (Cell.ptr 321 0))),(7,TV.v (V1.c (Cell.int .i64 (x.1:Int))))],[(1,Blk.box 30 [Cell.int .i64 0,Cell.bool false,Cell.int .i64 0,Cell.str [],Cell.nilsl,Cell.nilsl]),(321,Blk.box 30 [Cell.int .i64 5,Cell.bool false,Cell.int .i64 0,Cell.str [],Cell.row 1 433 0 x.2.2.1,Cell.row 6 449 0 x.2.2.2.2.1]),(0,tapeB ns x.2.1),(433,Blk.row 9 1 x.2.2.1 (strsF x.2.2.2.1)),(449,Blk.row 30 6 x.2.2.2.2.1 (rowF encJ .nil x.2.2.2.2.2))],465⟩)
  (fun x=>x.1≤m∧x.2.2.1=x.2.2.2.1.length∧x.2.2.2.2.1=x.2.2.2.2.2.length∧x.2.2.1=0∧x.2.2.2.2.1+x.1=m∧kidsT (valT ns n) ns false x.1 x.2.1 x.2.2.2.1 x.2.2.2.2.2=R) (fun x=>x.1) (m,nextA ns (nextA ns a 9) 4,0,[],0,[])
  (Ent.trans (Ent.empC (b:=321) (o:=4) (sz:=1) (e:=9) (e':=30) (cs:=[Cell.int .i64 5,Cell.bool false,Cell.int .i64 0,Cell.str [],Cell.nilsl,Cell.nilsl]) (f:=strsF []) dC (of_decide_eq_true kR) kR kR rfl) (Ent.trans (Ent.empC (b:=321) (o:=5) (sz:=6) (e:=30) (e':=30) (cs:=[Cell.int .i64 5,Cell.bool false,Cell.int .i64 0,Cell.str [],Cell.row 1 433 0 0,Cell.nilsl]) (f:=rowF encJ .nil []) dC (of_decide_eq_true kR) kR kR rfl) (Ent.of [] kR kR kR trivial))) ⟨Nat.le_refl _,rfl,rfl,rfl,Nat.zero_add _,hR⟩ ?_
 rintro ⟨i,a',nn,nm,nk,ks⟩ L ⟨hi,h1,h2,h3,h4,h5⟩ again
 simp only at hi h1 h2 h3 h4 h5
 rcases i with _ | j
 ·have hr:R=(nm,ks,a'):=h5.symm
  rw [hr]
  refine Wp.ent' kR (Ent.pubC (id:=433) (b:=321) (o:=4) (off:=0) (m:=nn) (sz:=1) (n:=nn) (e:=9) (e':=30) (cs:=[Cell.int .i64 5,Cell.bool false,Cell.int .i64 0,Cell.str [],Cell.row 1 433 0 nn,Cell.row 6 449 0 nk]) (f:=strsF nm) (m':=nm.length) (f':=fun i j=>nthD [.str (nm.getD i [])] j) kR kR kR oM h1 (fun i _ j hj=>str_one nm i j hj) rfl) ?_
  refine Wp.ent' kR (Ent.pubC (id:=449) (b:=321) (o:=5) (off:=0) (m:=nk) (sz:=6) (n:=nk) (e:=30) (e':=30) (cs:=[Cell.int .i64 5,Cell.bool false,Cell.int .i64 0,Cell.str [],Cell.sl 1 nm.length (fun i j=>nthD [.str (nm.getD i [])] j),Cell.row 6 449 0 nk]) (f:=rowF encJ .nil ks) (m':=ks.length) (f':=kidC ks) kR kR kR oM h2 (kid_pub ks h2) rfl) ?_
  refine zg [] [false] [decide ((↑(0:Nat):Int)>(0:Int))=false] rfl ?_
  exact zb []
 ·have e7:EqvD (V1.c (Cell.int .i64 (((j+1:Nat):Int)-1))) (.c (.int .i64 (j:Int))):=eqvD_of (by rw [show ((j+1:Nat):Int)-1=(j:Int) from by omega])
  have e0:EqvD (V1.c (Cell.int .i64 (((n+1:Nat):Int)-1))) (.c (.int .i64 (n:Int))):=eqvD_of (by rw [show ((n+1:Nat):Int)-1=(n:Int) from by omega])
  have e5:BlkEqv (.row 30 6 (nk+1) (catF nk (rowF encJ .nil ks) (fun i j_1=>nthD (encJ (valT ns n a').1) ((0+i)*6+j_1)))) (.row 30 6 (nk+1) (rowF encJ .nil (ks++[(valT ns n a').1]))):=enc_app ks _ h2
  have hnx:kidsT (valT ns n) ns false j (valT ns n a').2 nm (ks++[(valT ns n a').1])=R:=h5
  have q2:nk+1=(ks++[(valT ns n a').1]).length:=by simp [h2]
  have ihc:=ih a'
  clear h5 hR
  refine zg [(20,{fm:=[(2,.c (.int .i64 (j:Int)))]}),(23,{cs:=[(5,cb [0] ihc)],fm:=[(4,.c (.int .i64 (n:Int)))],bs:=[(7,.row 30 6 (nk+1) (rowF encJ .nil (ks++[(valT ns n a').1])))]})] [true,false] [decide ((↑(j+(1:Nat)):Int)>(0:Int))=true,((5:Int)==(6:Int))=false,EqvI (.c (.int .i64 ((↑(n+(1:Nat)):Int)-(1:Int)))) (.c (.int .i64 (n:Int))),EqvD (.c (.int .i64 ((↑(n+(1:Nat)):Int)-(1:Int)))) (.c (.int .i64 (n:Int))),inR .i64 ((↑(n+(1:Nat)):Int)-(1:Int)),(nk+1)*88≤140737488355328,BlkEqv (.row 30 6 (nk+1) (catF nk (fun i j=>nthD (encJ (ks.getD i .nil)) j) fun i j=>nthD [.int .i64 (valT ns n a').1.kind,.bool (valT ns n a').1.b,.int .i64 (valT ns n a').1.n,.str (valT ns n a').1.s,.sl 1 (valT ns n a').1.names.length fun i j=>nthD [.str ((valT ns n a').1.names.getD i [])] j,.sl 6 (valT ns n a').1.kids.length (kidC (valT ns n a').1.kids)] ((0+i)*6+j))) (.row 30 6 (nk+1) fun i j=>nthD (encJ ((ks++[(valT ns n a').1]).getD i .nil)) j),nk≤nk,0+1≤1,inR .i64 ((↑(j+(1:Nat)):Int)-(1:Int)),EqvI (.c (.int .i64 ((↑(j+(1:Nat)):Int)-(1:Int)))) (.c (.int .i64 (j:Int))),EqvD (.c (.int .i64 ((↑(j+(1:Nat)):Int)-(1:Int)))) (.c (.int .i64 (j:Int)))] ⟨(by simp;done),rfl,fun _ _=>trivial,aS,i6,oM,aS,oM,oM,i6,fun _ _=>trivial,(show EqvD (.c (.int .i64 ((↑(j+(1:Nat)):Int)-(1:Int)))) (.c (.int .i64 (↑j:Int))) from aS)⟩ ?_
  exact za [(449,657)] (again _ (j,(valT ns n a').2,nn,nm,nk+1,ks++[(valT ns n a').1]) ⟨oM,⟨aS,⟨aS,⟨aS,⟨sO,aS⟩⟩⟩⟩⟩ oM)
theorem val_obj (ns:List Int) (hl:ns.length≤9223372036854775807) (a:Nat) (n:Nat) (hn:n≤1000) (h6:nextV ns a 9>6) (ih:∀ a,FnB Tryz.prog G 9 [tapeB ns a] [.c (.ptr 0 0),.c (.int .i64 (n:Int))] [.agg (encJ (valT ns n a).1)] [(0,tapeB ns (valT ns n a).2)]) :
  FnB Tryz.prog G 9 [tapeB ns a] [.c (.ptr 0 0),.c (.int .i64 ((n+1:Nat):Int))] [.agg (encJ (valT ns (n+1) a).1)] [(0,tapeB ns (valT ns (n+1) a).2)]:=by
 refine zf Tryz.func9 ?_
 have r9:=nextV_rng ns a 9 dC
 have r4:=nextV_rng ns (nextA ns a 9) 4 dC
 obtain ⟨m,hm⟩:=Int.eq_ofNat_of_zero_le r4.1
 have hm4:m<4:=by omega
 have c4:FnB Tryz.prog G 47 [tapeB ns (nextA ns a 9)] [.c (.ptr 0 0),.c (.int .i64 4)] [.c (.int .i64 (m:Int))] [(0,tapeB ns (nextA ns (nextA ns a 9) 4))]:=by
  have:=next_ok (G:=G) ns (nextA ns a 9) 4 hl dC
  rwa [hm] at this
 have hv:valT ns (n+1) a=(.mk 6 false 0 [] (kidsT (valT ns n) ns true m (nextA ns (nextA ns a 9) 4) [] []).1 (kidsT (valT ns n) ns true m (nextA ns (nextA ns a 9) 4) [] []).2.1,(kidsT (valT ns n) ns true m (nextA ns (nextA ns a 9) 4) [] []).2.2):=by
  rw [valT,if_neg oM,hm]
  rw [if_pos h6,decide_eq_true h6]
  rfl
 rw [hv]
 clear hv
 generalize hR:kidsT (valT ns n) ns true m (nextA ns (nextA ns a 9) 4) [] []=R
 refine zg [(1,{cs:=[(1,cb [0] (next_ok ns a (9:Int) aS oM))]}),(18,{cs:=[(1,cb [0] c4)]})] [false,false,false,false,false,false,false,true] [decide ((↑(n+(1:Nat)):Int)≤(0:Int))=false,(nextV ns a (9:Int)==(0:Int))=false,(nextV ns a (9:Int)==(1:Int))=false,(nextV ns a (9:Int)==(2:Int))=false,(nextV ns a (9:Int)==(3:Int))=false,(nextV ns a (9:Int)==(4:Int))=false,(nextV ns a (9:Int)==(5:Int))=false,decide (nextV ns a (9:Int)>(6:Int))=true] ⟨rfl,sO,sO,sO,sO,sO,sO,(show decide (nextV ns a (9:Int)>(6:Int))=true from sO)⟩ ?_
 refine Wp.loopK kR (fun (x:Nat×Nat×Nat×List (List UInt8)×Nat×List JV)=>⟨[(0,TV.v (V1.c (Cell.ptr 0 0))),(1,TV.v (V1.c (Cell.int .i64 ((n+1:Nat):Int)))),(4,TV.v (V1.c (Cell.ptr 1 0))),(6,TV.v (V1.c (Cell.ptr 321 0))),(7,TV.v (V1.c (Cell.int .i64 (x.1:Int))))],[(1,Blk.box 30 [Cell.int .i64 0,Cell.bool false,Cell.int .i64 0,Cell.str [],Cell.nilsl,Cell.nilsl]),(321,Blk.box 30 [Cell.int .i64 6,Cell.bool false,Cell.int .i64 0,Cell.str [],Cell.row 1 465 0 x.2.2.1,Cell.row 6 481 0 x.2.2.2.2.1]),(0,tapeB ns x.2.1),(465,Blk.row 9 1 x.2.2.1 (strsF x.2.2.2.1)),(481,Blk.row 30 6 x.2.2.2.2.1 (rowF encJ .nil x.2.2.2.2.2))],497⟩)
  (fun x=>x.1≤m∧x.2.2.1=x.2.2.2.1.length∧x.2.2.2.2.1=x.2.2.2.2.2.length∧x.2.2.1=x.2.2.2.2.1∧x.2.2.2.2.1+x.1=m∧kidsT (valT ns n) ns true x.1 x.2.1 x.2.2.2.1 x.2.2.2.2.2=R) (fun x=>x.1) (m,nextA ns (nextA ns a 9) 4,0,[],0,[])
  (Ent.trans (Ent.empC (b:=321) (o:=4) (sz:=1) (e:=9) (e':=30) (cs:=[Cell.int .i64 6,Cell.bool false,Cell.int .i64 0,Cell.str [],Cell.nilsl,Cell.nilsl]) (f:=strsF []) dC (of_decide_eq_true kR) kR kR rfl) (Ent.trans (Ent.empC (b:=321) (o:=5) (sz:=6) (e:=30) (e':=30) (cs:=[Cell.int .i64 6,Cell.bool false,Cell.int .i64 0,Cell.str [],Cell.row 1 465 0 0,Cell.nilsl]) (f:=rowF encJ .nil []) dC (of_decide_eq_true kR) kR kR rfl) (Ent.of [] kR kR kR trivial))) ⟨Nat.le_refl _,rfl,rfl,rfl,Nat.zero_add _,hR⟩ ?_
 rintro ⟨i,a',nn,nm,nk,ks⟩ L ⟨hi,h1,h2,h3,h4,h5⟩ again
 simp only at hi h1 h2 h3 h4 h5
 rcases i with _ | j
 ·have hr:R=(nm,ks,a'):=h5.symm
  rw [hr]
  refine Wp.ent' kR (Ent.pubC (id:=465) (b:=321) (o:=4) (off:=0) (m:=nn) (sz:=1) (n:=nn) (e:=9) (e':=30) (cs:=[Cell.int .i64 6,Cell.bool false,Cell.int .i64 0,Cell.str [],Cell.row 1 465 0 nn,Cell.row 6 481 0 nk]) (f:=strsF nm) (m':=nm.length) (f':=fun i j=>nthD [.str (nm.getD i [])] j) kR kR kR oM h1 (fun i _ j hj=>str_one nm i j hj) rfl) ?_
  refine Wp.ent' kR (Ent.pubC (id:=481) (b:=321) (o:=5) (off:=0) (m:=nk) (sz:=6) (n:=nk) (e:=30) (e':=30) (cs:=[Cell.int .i64 6,Cell.bool false,Cell.int .i64 0,Cell.str [],Cell.sl 1 nm.length (fun i j=>nthD [.str (nm.getD i [])] j),Cell.row 6 481 0 nk]) (f:=rowF encJ .nil ks) (m':=ks.length) (f':=kidC ks) kR kR kR oM h2 (kid_pub ks h2) rfl) ?_
  refine zg [] [false] [decide ((↑(0:Nat):Int)>(0:Int))=false] rfl ?_
  exact zb []
 ·have e7:EqvD (V1.c (Cell.int .i64 (((j+1:Nat):Int)-1))) (.c (.int .i64 (j:Int))):=eqvD_of (by rw [show ((j+1:Nat):Int)-1=(j:Int) from by omega])
  have e0:EqvD (V1.c (Cell.int .i64 (((n+1:Nat):Int)-1))) (.c (.int .i64 (n:Int))):=eqvD_of (by rw [show ((n+1:Nat):Int)-1=(n:Int) from by omega])
  have e1:EqvD (.c (.sl 1 4 (fun i j=>nthD [Cell.str [97],Cell.str [98],Cell.str [],Cell.str [34]] (i*1+j)))) (.c (.sl 1 nam4.length (strsF nam4))):=strs_lit nam4 rfl rfl
  have hj3:j=0∨j=1∨j=2:=by omega
  have e2:areBytes (fun i j_1=>nthD [.int .u8 (IntKind.u8.wrap (48+((j+1:Nat):Int)))] (i*1+j_1)) 0 1:=by
   intro i hi
   obtain rfl:i=0:=by omega
   rcases hj3 with rfl | rfl | rfl<;>rfl
  have e3:EqvD (V1.c (Cell.str (byteL (fun i j_1=>nthD [.int .u8 (IntKind.u8.wrap (48+((j+1:Nat):Int)))] (i*1+j_1)) 0 1))) (.c (.str [UInt8.ofNat (48+(j+1))])):=eqvD_of (by rcases hj3 with rfl | rfl | rfl<;>rfl)
  have e4:BlkEqv (.row 9 1 (nn+1) (catF nn (strsF nm) (fun i j_1=>nthD [.str (pickT nam4 ns a'++[UInt8.ofNat (48+(j+1))])] ((0+i)*1+j_1)))) (.row 9 1 (nn+1) (strsF (nm++[pickT nam4 ns a'++[UInt8.ofNat (48+(j+1))]]))):=strs_app nm _ h1
  have e5:BlkEqv (.row 30 6 (nk+1) (catF nk (rowF encJ .nil ks) (fun i j_1=>nthD (encJ (valT ns n (nextA ns a' 4)).1) ((0+i)*6+j_1)))) (.row 30 6 (nk+1) (rowF encJ .nil (ks++[(valT ns n (nextA ns a' 4)).1]))):=enc_app ks _ h2
  have hnx:kidsT (valT ns n) ns true j (valT ns n (nextA ns a' 4)).2 (nm++[pickT nam4 ns a'++[UInt8.ofNat (48+(j+1))]]) (ks++[(valT ns n (nextA ns a' 4)).1])=R:=h5
  have q1:nn+1=(nm++[pickT nam4 ns a'++[UInt8.ofNat (48+(j+1))]]).length:=by simp [h1]
  have q2:nk+1=(ks++[(valT ns n (nextA ns a' 4)).1]).length:=by simp [h2]
  have q3:(nam4.getD (nextV ns a' ((nam4.length:Nat):Int)).toNat []).length≤1000:=by
   have:∀ s∈nam4,s.length≤1000:=by decide
   exact this _ (pick_mem4 ns a')
  have ihc:=ih (nextA ns a' 4)
  clear h5 hR
  refine zg [(20,{fm:=[(2,.c (.int .i64 (j:Int)))]}),(22,{cs:=[(4,cb [0] (pick_ok nam4 ns a' aS dC))],fm:=[(3,.c (.sl 1 nam4.length (strsF nam4))),(9,.c (.str [UInt8.ofNat (48+(j+1))]))],bs:=[(12,.row 9 1 (nn+1) (strsF (nm++[pickT nam4 ns a'++[UInt8.ofNat (48+(j+1))]])))]}),(23,{cs:=[(5,cb [0] ihc)],fm:=[(4,.c (.int .i64 (n:Int)))],bs:=[(7,.row 30 6 (nk+1) (rowF encJ .nil (ks++[(valT ns n (nextA ns a' 4)).1])))]})] [true,true] [decide ((↑(j+(1:Nat)):Int)>(0:Int))=true,((6:Int)==(6:Int))=true,EqvI (.c (.sl 1 (4:Nat) fun i j=>nthD [.str [(97:UInt8)],.str [(98:UInt8)],.str [],.str [(34:UInt8)]] (i*(1:Nat)+j))) (.c (.sl 1 nam4.length (strsF nam4))),EqvD (.c (.sl 1 (4:Nat) fun i j=>nthD [.str [(97:UInt8)],.str [(98:UInt8)],.str [],.str [(34:UInt8)]] (i*(1:Nat)+j))) (.c (.sl 1 nam4.length (strsF nam4))),inR .i64 ((48:Int)+(↑(j+(1:Nat)):Int)),EqvI (.c (.str [{ toBitVec:=BitVec.ofNat (8:Nat) (IntKind.u8.wrap ((48:Int)+(↑(j+(1:Nat)):Int))).toNat }])) (.c (.str [UInt8.ofNat ((48:Nat)+(j+(1:Nat)))])),EqvD (.c (.str [{ toBitVec:=BitVec.ofNat (8:Nat) (IntKind.u8.wrap ((48:Int)+(↑(j+(1:Nat)):Int))).toNat }])) (.c (.str [UInt8.ofNat ((48:Nat)+(j+(1:Nat)))])),0+1≤1,areBytes (fun (i j_1:Nat)=>nthD [.int .u8 (IntKind.u8.wrap ((48:Int)+(↑(j+(1:Nat)):Int)))] (i*(1:Nat)+j_1)) (0:Nat) (1:Nat),(nam4.getD (nextV ns a' (nam4.length:Int)).toNat []).length+(1:Nat)≤(9223372036854775807:Nat),(nn+1)*16≤140737488355328,BlkEqv (.row 9 (1:Nat) (nn+(1:Nat)) (catF nn (strsF nm) fun (i j_1:Nat)=>nthD [.str (nam4.getD (nextV ns a' (nam4.length:Int)).toNat []++[UInt8.ofNat ((48:Nat)+(j+(1:Nat)))])] (((0:Nat)+i)*(1:Nat)+j_1))) (.row 9 (1:Nat) (nn+(1:Nat)) (strsF (nm++[pickT nam4 ns a'++[UInt8.ofNat ((48:Nat)+(j+(1:Nat)))]]))),nn≤nn,0+1≤1,EqvI (.c (.int .i64 ((↑(n+(1:Nat)):Int)-(1:Int)))) (.c (.int .i64 (n:Int))),EqvD (.c (.int .i64 ((↑(n+(1:Nat)):Int)-(1:Int)))) (.c (.int .i64 (n:Int))),inR .i64 ((↑(n+(1:Nat)):Int)-(1:Int)),(nk+1)*88≤140737488355328,BlkEqv (.row 30 (6:Nat) (nk+(1:Nat)) (catF nk (fun i j=>nthD (encJ (ks.getD i .nil)) j) fun i j=>nthD [.int .i64 (valT ns n (nextA ns a' (4:Int))).1.kind,.bool (valT ns n (nextA ns a' (4:Int))).1.b,.int .i64 (valT ns n (nextA ns a' (4:Int))).1.n,.str (valT ns n (nextA ns a' (4:Int))).1.s,.sl 1 (valT ns n (nextA ns a' (4:Int))).1.names.length fun i j=>nthD [.str ((valT ns n (nextA ns a' (4:Int))).1.names.getD i [])] j,.sl 6 (valT ns n (nextA ns a' (4:Int))).1.kids.length (kidC (valT ns n (nextA ns a' (4:Int))).1.kids)] (((0:Nat)+i)*(6:Nat)+j))) (.row 30 (6:Nat) (nk+(1:Nat)) fun i j=>nthD (encJ ((ks++[(valT ns n (nextA ns a' (4:Int))).1]).getD i .nil)) j),nk≤nk,0+1≤1,inR .i64 ((↑(j+(1:Nat)):Int)-(1:Int)),EqvI (.c (.int .i64 ((↑(j+(1:Nat)):Int)-(1:Int)))) (.c (.int .i64 (j:Int))),EqvD (.c (.int .i64 ((↑(j+(1:Nat)):Int)-(1:Int)))) (.c (.int .i64 (j:Int)))] ⟨(by simp;done),rfl,fun _ _=>trivial,aS,i6,fun _ _=>trivial,aS,oM,aS,oM,oM,aS,oM,oM,fun _ _=>trivial,aS,i6,oM,aS,oM,oM,i6,fun _ _=>trivial,(show EqvD (.c (.int .i64 ((↑(j+(1:Nat)):Int)-(1:Int)))) (.c (.int .i64 (↑j:Int))) from aS)⟩ ?_
  exact za [(465,769),(481,929)] (again _ (j,(valT ns n (nextA ns a' 4)).2,nn+1,nm++[pickT nam4 ns a'++[UInt8.ofNat (48+(j+1))]],nk+1,ks++[(valT ns n (nextA ns a' 4)).1]) ⟨oM,⟨aS,⟨aS,⟨sO,⟨sO,aS⟩⟩⟩⟩⟩ oM)
theorem val_ok (ns:List Int) (hl:ns.length≤9223372036854775807):∀ (n:Nat),n≤1000→∀ a,FnB Tryz.prog G 9 [tapeB ns a] [.c (.ptr 0 0),.c (.int .i64 (n:Int))] [.agg (encJ (valT ns n a).1)] [(0,tapeB ns (valT ns n a).2)]
 | 0,_,a=>val_zero ns hl a
 | n+1,hn,a=>by
  have r9:=nextV_rng ns a 9 dC
  have ih:=val_ok ns hl n oM
  by_cases h6:nextV ns a 9<6
  ·exact val_leaf ns hl a n h6
  ·by_cases h7:nextV ns a 9=6
   ·exact val_list ns hl a n oM h7 ih
   ·exact val_obj ns hl a n oM oM ih
theorem same_top (v:JV):(bif bif bif bif bif v.kind != v.kind then true else (v.b != v.b) then true else v.n != v.n then true else !(v.s==v.s) then true else ((v.names.length:Int) != (v.names.length:Int)) then true else ((v.kids.length:Int) != (v.kids.length:Int)))=false:=by simp
theorem sameJ_ok {v:JV} (hs:Small v):Pur Tryz.prog G 24 [.agg (encJ v),.agg (encJ v)] [.c (.bool true)]:=by
 induction hs with
 | mk hn hk hkids ih =>
 rename_i v
 refine zp Tryz.func24 ?_
 have ht:=same_top v
 refine zg [] [false] [(bif bif bif bif bif v.kind != v.kind then true else !v.b==v.b then true else v.n != v.n then true else !v.s==v.s then true else (v.names.length:Int) != (v.names.length:Int) then true else (v.kids.length:Int) != (v.kids.length:Int))=false] (oN aS) ?_
 refine zl (fun (k:Nat)=>⟨[(2,.v (.c (.ptr 0 0))),(3,.v (.c (.ptr 16 0))),(5,.v (.c (.int .i64 (k:Int))))],[(0,.box 30 (encJ v)),(16,.box 30 (encJ v))],768⟩) (fun k=>k≤v.names.length) (fun k=>v.names.length-k) 0 (Nat.zero_le _) ?_
 intro k L hk again
 rcases Nat.lt_or_ge k v.names.length with hlt | hge
 ·refine zg [] [true,false] [decide ((k:Int)<(v.names.length:Int))=true,(0:Int)≤(k:Int)∧(k:Int)<(v.names.length:Int),(0:Int)≤(k:Int)∧(k:Int)<(v.names.length:Int),(!v.names.getD k []==v.names.getD k [])=false,inR .i64 ((k:Int)+1)] ⟨sO,oM,oM,(by simp;done),i6⟩ ?_
  exact za [] (again _ (k+1) aS oM)
 ·obtain rfl:k=v.names.length:=by omega
  clear again
  refine zg [] [false] [decide ((v.names.length:Int)<(v.names.length:Int))=false] (show decide ((v.names.length:Int)<(v.names.length:Int))=false from (by simp)) ?_
  refine zl (fun (k:Nat)=>⟨[(2,.v (.c (.ptr 0 0))),(3,.v (.c (.ptr 16 0))),(6,.v (.c (.int .i64 (k:Int))))],[(0,.box 30 (encJ v)),(16,.box 30 (encJ v))],1024⟩) (fun k=>k≤v.kids.length) (fun k=>v.kids.length-k) 0 (Nat.zero_le _) ?_
  intro k L' hk2 again
  rcases Nat.lt_or_ge k v.kids.length with hlt | hge2
  ·have e1:=kid_den hlt
   have c:=ih (v.kids.getD k .nil) (by simp [List.getD,hlt])
   refine zg [(11,{cs:=[(10,pc c)],fm:=[(4,.agg (encJ (v.kids.getD k .nil))),(9,.agg (encJ (v.kids.getD k .nil)))]})] [true,false] [decide ((k:Int)<(v.kids.length:Int))=true,(0:Int)≤(k:Int)∧(k:Int)<(v.kids.length:Int),EqvD (.agg [kidC v.kids k 0,kidC v.kids k (0+1),kidC v.kids k (0+1+1),kidC v.kids k (0+1+1+1),kidC v.kids k (0+1+1+1+1),kidC v.kids k (0+1+1+1+1+1)]) (.agg (encJ (v.kids.getD k .nil))),(0:Int)≤(k:Int)∧(k:Int)<(v.kids.length:Int),EqvD (.agg [kidC v.kids k 0,kidC v.kids k (0+1),kidC v.kids k (0+1+1),kidC v.kids k (0+1+1+1),kidC v.kids k (0+1+1+1+1),kidC v.kids k (0+1+1+1+1+1)]) (.agg (encJ (v.kids.getD k .nil))),(!true)=false,inR .i64 ((k:Int)+1)] ⟨sO,oM,aS,oM,aS,rfl,i6⟩ ?_
   exact za [] (again _ (k+1) aS oM)
  ·obtain rfl:k=v.kids.length:=by omega
   refine zg [] [false] [decide ((v.kids.length:Int)<(v.kids.length:Int))=false] (show decide ((↑v.kids.length:Int)<(↑v.kids.length:Int))=false from (by simp;done)) ?_
   exact zr
end Go.Proofs.Tw
end
section
open Go Go.Sv
namespace Go.Proofs.Tw
set_option maxRecDepth 100000
set_option maxHeartbeats 4000000
theorem pick_in (ss:List (List UInt8)) (ns:List Int) (a:Nat) (h:0<ss.length):pickT ss ns a∈ss:=by
 have h1:=nextV_rng ns a ss.length oM
 unfold pickT
 rw [List.getD_eq_getElem?_getD,List.getElem?_eq_getElem oM]
 exact List.getElem_mem _
theorem joinTail_le (c:UInt8) (B:Nat):∀ xs:List (List UInt8),(∀ x∈xs,x.length≤B)→(Lib.joinTail [c] xs).length≤xs.length*(B+1)
 | [],_=>Nat.zero_le _
 | x::r,h=>by
  have ih:=joinTail_le c B r (fun y hy=>h y (List.mem_cons_of_mem _ hy))
  have hx:=h x List.mem_cons_self
  unfold Lib.joinTail at ih ⊢
  rw [List.map_cons,List.flatten_cons,List.length_append,List.length_append,List.length_cons,List.length_cons,Nat.succ_mul]
  simp only [List.length_nil]
  omega
theorem join_le (c:UInt8) (B:Nat) (xs:List (List UInt8)) (h:∀ x∈xs,x.length≤B):(Lib.join xs [c]).length≤xs.length*(B+1):=by
 cases xs with
 | nil=>exact Nat.zero_le _
 | cons x r =>
  have ih:=joinTail_le c B r (fun y hy=>h y (List.mem_cons_of_mem _ hy))
  have hx:=h x List.mem_cons_self
  rw [Lib.join_cons,List.length_append,List.length_cons,Nat.succ_mul]
  omega
structure Flat (v:JV):Prop where
 h1:v.names.length≤3
 h2:v.kids.length≤3
 h3:v.kind=6→v.kids.length≤v.names.length
 h4:∀ x∈v.names,x.length≤2
 h5:v.s.length≤20
 h6 : -4611686018427387904≤v.n
 h7:v.n≤4611686018427387904
 h8:(Lib.itoa v.n).length≤100
theorem fields_small (ns:List Int):∀ (k a:Nat) (l:List FT),(∀ f∈l,f.name.length≤20∧f.value.length≤20)→(fldsN ns k a l).length≤l.length+k∧∀ f∈fldsN ns k a l,f.name.length≤20∧f.value.length≤20
 | 0,a,l,h=>⟨Nat.le_refl _,h⟩
 | k+1,a,l,h=>by
  unfold fldsN
  split
  ·split
   ·have:=fields_small ns k (nextA ns (nextA ns a 9) 8) l h
    exact ⟨by omega,this.2⟩
   ·have h1:∀ x∈names10,x.length≤20:=by decide
    have h2:∀ x∈vals10,x.length≤20:=by decide
    have:=fields_small ns k (nextA ns (nextA ns a 9) 8) (l++[⟨pickT names10 ns a,pickT vals10 ns (nextA ns a 9)⟩]) (by
     intro f hf
     rcases List.mem_append.1 hf with hf | hf
     ·exact h f hf
     ·rcases List.mem_singleton.1 hf with rfl
      exact ⟨h1 _ (pick_in names10 ns a dC),h2 _ (pick_in vals10 ns _ dC)⟩)
    rw [List.length_append] at this
    exact ⟨by have:=this.1;simp only [List.length_cons,List.length_nil] at this;omega,this.2⟩
  ·exact ⟨by omega,h⟩
theorem pctT_le (form:Bool) (s:List UInt8):(pctT form s).length≤3*s.length:=by
 have h:=pctN_len form s s.length (Nat.le_refl _)
 rw [pctN_end] at h
 exact h.2
theorem query_small (l:List FT) (n:Nat) (hn:l.length≤n) (h:∀ f∈l,f.name.length≤20∧f.value.length≤20):(printQ l).length≤n*122:=by
 unfold printQ
 have:=join_le 38 121 (l.map fieldQ) (by
  intro x hx
  obtain ⟨f,hf,rfl⟩:=List.mem_map.1 hx
  have:=h f hf
  have a:=pctT_le true f.name
  have b:=pctT_le true f.value
  unfold fieldQ
  simp only [List.length_append,List.length_cons,List.length_nil]
  omega)
 rw [List.length_map] at this
 have:=Nat.mul_le_mul_right 122 hn
 omega
theorem uri_fit (ns:List Int):FitU (uriT ns):=by
 have r:=nextV_rng ns (nextA ns (nextA ns 0 7) 6) 6 dC
 have h1:∀ x∈hostsU,x.length≤20:=by decide
 have h2:∀ x∈pathsU,x.length≤20:=by decide
 have a:=h1 _ (pick_in hostsU ns 0 dC)
 have b:=h2 _ (pick_in pathsU ns (nextA ns 0 7) dC)
 have c:=fields_small ns (nextV ns (nextA ns (nextA ns 0 7) 6) 6).toNat 0 [] (by intro f hf;cases hf)
 have d:(fldsN ns (nextV ns (nextA ns (nextA ns 0 7) 6) 6).toNat 0 []).length≤6:=by have:=c.1;simp only [List.length_nil] at this;omega
 have e:=query_small _ 6 d c.2
 exact ⟨by show (pickT hostsU ns 0).length≤_;omega,by show (pickT pathsU ns (nextA ns 0 7)).length≤_;omega,by show (fldsN ns _ 0 []).length<_;omega,by show (printQ (fldsN ns _ 0 [])).length≤_;omega⟩
end Go.Proofs.Tw
end
section
open Go Go.Sv
namespace Go.Proofs.Tw
set_option maxRecDepth 100000
set_option maxHeartbeats 4000000
def Good:Nat→JV→Prop
 | 0,v=>Flat v∧v.kids=[]
 | n+1,v=>Flat v∧∀ x∈v.kids,Good n x
theorem good_flat:∀ {n:Nat} {v:JV},Good n v→Flat v
 | 0,_,h=>h.1
 | _+1,_,h=>h.1
def lenB:Nat→Nat
 | 0=>200
 | n+1=>3*(lenB n+20)+2
theorem lenB_le:∀ n,200≤lenB n
 | 0=>Nat.le_refl _
 | n+1=>by have:=lenB_le n; unfold lenB; omega
theorem printJ_le:∀ (n:Nat) (v:JV),Good n v→(printJ v).length≤lenB n:=by
 intro n v hg
 have hf:=good_flat hg
 have h2:=lenB_le n
 have hq:=quoted_len v.s
 have hs:=hf.h5
 have h8:=hf.h8
 have hj:(Lib.join (parts v v.kids.length) [44]).length+2≤lenB n:=by
  cases n with
  | zero=>rw [hg.2]; show 2≤200; omega
  | succ n =>
   have hp:∀ x∈parts v v.kids.length,x.length≤lenB n+19:=by
    intro x hx
    obtain ⟨i,hi,rfl⟩:=List.mem_map.1 hx
    have hi:=List.mem_range.1 hi
    have hk:v.kids.getD i .nil∈v.kids:=by rw [List.getD_eq_getElem?_getD,List.getElem?_eq_getElem hi];exact List.getElem_mem _
    have ih:=printJ_le n _ (hg.2 _ hk)
    have hn:(v.names.getD i []).length≤2:=by
     rcases Nat.lt_or_ge i v.names.length with h | h
     ·exact hf.h4 _ (by rw [List.getD_eq_getElem?_getD,List.getElem?_eq_getElem h];exact List.getElem_mem _)
     ·rw [List.getD_eq_getElem?_getD,List.getElem?_eq_none h];exact Nat.zero_le _
    have hq2:=quoted_len (v.names.getD i [])
    unfold partAt
    split
    ·simp only [List.length_append,List.length_cons,List.length_nil];omega
    ·omega
   have hl:=join_le 44 (lenB n+19) _ hp
   have hc:(parts v v.kids.length).length=v.kids.length:=by unfold parts;simp
   rw [hc] at hl
   have:=Nat.mul_le_mul_right (lenB n+19+1) hf.h2
   unfold lenB
   omega
 rw [printJ_eq]
 split
 ·show 4≤_;omega
 ·split
  ·cases v.b
   ·show 5≤_;omega
   ·show 4≤_;omega
  ·split
   ·omega
   ·split
    ·omega
    ·split
     ·simp only [List.length_append,List.length_cons,List.length_nil];omega
     ·simp only [List.length_append,List.length_cons,List.length_nil];omega
theorem good_small:∀ (n:Nat) (v:JV),Good n v→Small v
 | 0,v,h => .mk (by have:=h.1.h1; omega) (by have:=h.1.h2; omega) (by rw [h.2]; intro x hx; cases hx)
 | n+1,v,h => .mk (by have:=h.1.h1; omega) (by have:=h.1.h2; omega) (fun x hx=>good_small n x (h.2 x hx))
theorem good_fit (B:Nat):∀ (n:Nat) (v:JV),n≤9→Good n v→Fit v:=by
 have hb:∀ n,n≤9→lenB n≤140737488355328:=by decide
 intro n
 induction n with
 | zero=>intro v hn h; exact .mk (by have:=h.1.h2; omega) h.1.h3 h.1.h6 h.1.h7 (Nat.le_trans (printJ_le 0 v h) (hb 0 hn)) (by rw [h.2]; intro x hx; cases hx)
 | succ n ih=>intro v hn h; exact .mk (by have:=h.1.h2; omega) h.1.h3 h.1.h6 h.1.h7 (Nat.le_trans (printJ_le (n+1) v h) (hb _ hn)) (fun x hx=>ih x oM (h.2 x hx))
theorem flat_leaf (ns:List Int) (k:Int) (a:Nat):Flat (leafT ns k a).1∧(leafT ns k a).1.kids=[]:=by
 have hi:∀ m:Nat,-4611686018427387904≤ints8.getD m 0∧ints8.getD m 0≤4611686018427387904∧(Lib.itoa (ints8.getD m 0)).length≤100:=by
  intro m
  rcases Nat.lt_or_ge m 8 with h | h
  ·have:∀ m:Nat,m<8 → -4611686018427387904≤ints8.getD m 0∧ints8.getD m 0≤4611686018427387904∧(Lib.itoa (ints8.getD m 0)).length≤100:=by decide +kernel
   exact this m h
  ·rw [List.getD_eq_getElem?_getD,List.getElem?_eq_none (by exact h)];decide +kernel
 have h0:(Lib.itoa 0).length≤100:=by decide +kernel
 have mk:∀ v:JV,v.names=[]→v.kids=[]→v.s.length≤20→v.n=0→Flat v∧v.kids=[]:=fun v e1 e2 e3 e4 =>
  ⟨⟨by rw [e1];exact Nat.zero_le _,by rw [e2];exact Nat.zero_le _,fun _=>by rw [e2];exact Nat.zero_le _,(by rw [e1];intro x hx;cases hx),e3,by rw [e4];decide,by rw [e4];decide,by rw [e4];exact h0⟩,e2⟩
 unfold leafT
 split
 ·exact mk _ rfl rfl (Nat.zero_le _) rfl
 ·split
  ·exact mk _ rfl rfl (Nat.zero_le _) rfl
  ·split
   ·have:=hi (nextV ns a 8).toNat
    exact ⟨⟨Nat.zero_le _,Nat.zero_le _,fun _=>Nat.le_refl _,(by intro x hx;cases hx),Nat.zero_le _,this.1,this.2.1,this.2.2⟩,rfl⟩
   ·have hm:=pick_in txt11 ns a dC
    have hl:∀ x∈txt11,x.length≤20:=by decide
    exact mk _ rfl rfl (hl _ hm) rfl
theorem good_leaf (n:Nat) (ns:List Int) (k:Int) (a:Nat):Good n (leafT ns k a).1:=by
 obtain ⟨h1,h2⟩:=flat_leaf ns k a
 cases n with
 | zero=>exact ⟨h1,h2⟩
 | succ n=>exact ⟨h1,by rw [h2]; intro x hx; cases hx⟩
theorem good_kids (n:Nat) (f:Nat→JV×Nat) (hf:∀ a,Good n (f a).1) (ns:List Int) (obj:Bool):∀ (i a:Nat) (nm:List (List UInt8)) (ks:List JV),
  i+ks.length≤3→nm.length≤ks.length→(obj=true→nm.length=ks.length)→(∀ x∈nm,x.length≤2)→(∀ x∈ks,Good n x) →
  (kidsT f ns obj i a nm ks).2.1.length≤3∧(kidsT f ns obj i a nm ks).1.length≤(kidsT f ns obj i a nm ks).2.1.length∧(obj=true→(kidsT f ns obj i a nm ks).1.length=(kidsT f ns obj i a nm ks).2.1.length)∧(∀ x∈(kidsT f ns obj i a nm ks).1,x.length≤2)∧(∀ x∈(kidsT f ns obj i a nm ks).2.1,Good n x)
 | 0,a,nm,ks,h1,h2,h3,h4,h5=>⟨by show ks.length≤3; omega,h2,h3,h4,h5⟩
 | i+1,a,nm,ks,h1,h2,h3,h4,h5=>by
  unfold kidsT
  have h5':∀ x∈ks++[(f (if obj then nextA ns a 4 else a)).1],Good n x:=by
   intro x hx
   rcases List.mem_append.1 hx with hx | hx
   ·exact h5 x hx
   ·rcases List.mem_singleton.1 hx with rfl;exact hf _
  have hl:(ks++[(f (if obj then nextA ns a 4 else a)).1]).length=ks.length+1:=by simp
  have hn4:∀ x∈nam4,x.length≤1:=by decide
  cases obj with
  | true =>
   have hl2:(nm++[pickT nam4 ns a++[UInt8.ofNat (48+(i+1))]]).length=nm.length+1:=by simp
   refine good_kids n f hf ns true i _ _ _ (by rw [hl];omega) ?_ (fun _ => ?_) ?_ h5'
   ·rw [if_pos rfl,hl,hl2];have:=h3 rfl;omega
   ·rw [if_pos rfl,hl,hl2,h3 rfl]
   ·intro x hx
    rw [if_pos rfl] at hx
    rcases List.mem_append.1 hx with hx | hx
    ·exact h4 x hx
    ·rcases List.mem_singleton.1 hx with rfl
     have:=hn4 _ (pick_mem4 ns a)
     rw [List.length_append];simp only [List.length_cons,List.length_nil];omega
  | false =>
   refine good_kids n f hf ns false i _ _ _ (by rw [hl];omega) ?_ (fun h=>by cases h) ?_ h5'
   ·rw [hl];show nm.length≤_;omega
   ·exact h4
theorem good_val (ns:List Int):∀ n a,Good n (valT ns n a).1
 | 0,a=>by rw [valT]; exact good_leaf 0 ns _ _
 | n+1,a=>by
  rw [valT]
  split
  ·exact good_leaf (n+1) ns _ _
  ·have r4:=nextV_rng ns (nextA ns a 9) 4 dC
   obtain ⟨h1,h2,h3,h4,h5⟩:=good_kids n (valT ns n) (good_val ns n) ns (decide (nextV ns a 9>6)) (nextV ns (nextA ns a 9) 4).toNat (nextA ns (nextA ns a 9) 4) [] []
    (by show _+0≤3;omega) (Nat.le_refl _) (fun _=>rfl) (by intro x hx;cases hx) (by intro x hx;cases hx)
   refine ⟨⟨Nat.le_trans h2 h1,h1,fun hk => ?_,h4,Nat.zero_le _,by show _≤(0:Int);decide,by show (0:Int)≤_;decide,by show (Lib.itoa 0).length≤100;decide +kernel⟩,h5⟩
   refine Nat.le_of_eq (h3 ?_).symm
   apply decide_eq_true
   apply Classical.byContradiction
   intro hc
   have hk:(if nextV ns a 9>6 then (6:Int) else 5)=6:=hk
   rw [if_neg hc] at hk
   cases hk
end Go.Proofs.Tw
end
section
open Go Go.Sv Go.RowKit
namespace Go.Proofs.Tw
attribute [local irreducible] Wp FinQ resV Ent Pur Go.Sv.Fn Sat0
set_option maxRecDepth 100000
set_option maxHeartbeats 4000000
variable {G:Nat→Option (List Cell)}

theorem cut_len (s p:List UInt8):(Lib.cut s p).1.length≤s.length∧(Lib.cut s p).2.1.length≤s.length:=by
 unfold Lib.cut
 split
 ·simp only [List.length_take,List.length_drop];omega
 ·simp
theorem nil_eqv (sz:Nat) (f:Nat→Nat→Cell):EqvD (.c .nilsl) (.c (.sl sz 0 f)):=fun D ρ u h=>⟨none,0,h,Nat.le_refl _,Nat.zero_le _,.inl ⟨rfl,rfl⟩⟩
theorem Pur.arg0 {P:Program} {f:FuncId} {a a':V1} {al rs:List V1} (h:Pur P G f (a::al) rs) (e:EqvD a' a):Pur P G f (a'::al) rs:=by
 unfold Pur Go.Sv.Fn at h ⊢
 intro D ρ w vs h1 h2 h3 h4 h5 h6
 refine h D ρ w vs ⟨h1.1,fun j x hj => ?_⟩ h2 h3 h4 h5 h6
 cases j with
 | zero =>
  obtain ⟨u,hu,hd⟩:=h1.2 0 a' rfl
  simp only [List.getElem?_cons_zero,Option.some.injEq] at hj
  subst hj
  exact ⟨u,hu,e _ _ _ hd⟩
 | succ j=>exact h1.2 (j+1) x (by simpa using hj)
theorem split_hit {s sep:List UInt8} {i:Nat} (hs:sep≠[]) (h:Lib.index s sep=i):Lib.split s sep=s.take i::Lib.split (s.drop (i+sep.length)) sep:=by
 have hne:((i:Int) == -1)=false:=by rw [beq_eq_false_iff_ne];omega
 unfold Lib.split
 rw [Lib.count_hit hs h,Nat.add_comm 1,Lib.splitK,h,hne]
 simp
theorem split_miss {s sep:List UInt8} (h:Lib.index s sep = -1):Lib.split s sep=[s]:=by
 unfold Lib.split;rw [Lib.count_miss h];rfl
theorem occ_drop (s sep:List UInt8) (a j:Nat):Lib.occAt (s.drop a) sep j=Lib.occAt s sep (a+j):=by
 unfold Lib.occAt;rw [List.drop_drop]
theorem split_at {s sep:List UInt8} (hs:sep≠[]) {a i:Nat} (hai:a≤i) (hi:i≤s.length) (ho:Lib.occAt s sep i=true) (hall:∀ j,a≤j→j<i→Lib.occAt s sep j=false) :
  Lib.split (s.drop a) sep=(s.take i).drop a::Lib.split (s.drop (i+sep.length)) sep:=by
 have h:Lib.index (s.drop a) sep=((i-a:Nat):Int):=Lib.index_first (by rw [List.length_drop];omega) (by rw [occ_drop,show a+(i-a)=i from by omega];exact ho) (fun j hj=>by rw [occ_drop];exact hall _ oM oM)
 rw [split_hit hs h,List.drop_drop,show a+(i-a+sep.length)=i+sep.length from by omega,List.drop_take]
theorem split_end {s sep:List UInt8} (hs:sep≠[]) {a i:Nat} (hi:s.length<i+sep.length) (hall:∀ j,a≤j→j<i→Lib.occAt s sep j=false):Lib.split (s.drop a) sep=[(s.take s.length).drop a]:=by
 rw [List.take_length]
 refine split_miss (Lib.index_none fun j hj => ?_)
 cases hq:Lib.occAt (s.drop a) sep j with
 | false=>rfl
 | true =>
  rcases Lib.occAt_room hq with h' | h'
  ·rw [List.length_drop] at h'
   have hp:0<sep.length:=List.length_pos_iff.2 hs
   have:=hall (a+j) oM oM
   rw [occ_drop,this] at hq;cases hq
  ·exact (hs h').elim
theorem parts_ok (s sep:List UInt8) (hl:s.length<1000000000) (hs:sep≠[]) (hn:sep.length<1000):Pur Tryz.prog G 155 [.c (.str s),.c (.str sep)] [.c (.sl 1 (Lib.split s sep).length (strsF (Lib.split s sep)))]:=by
 refine zp Tryz.func155 ?_
 have hp:0<sep.length:=List.length_pos_iff.2 hs
 refine z0 [] [] ?_
 refine Wp.loopK kR (fun (x:Nat×Nat×Nat×List (List UInt8))=>⟨[(0,.v (.c (.str s))),(1,.v (.c (.str sep))),(5,.v (.c (.row 1 64 0 x.2.2.1))),(6,.v (.c (.int .i64 (x.2.1:Int)))),(7,.v (.c (.int .i64 (x.1:Int))))],[(64,.row 9 1 x.2.2.1 (strsF x.2.2.2))],80⟩) (fun x=>x.1≤s.length∧x.2.1≤s.length∧x.2.2.1=x.2.2.2.length∧x.2.2.1≤x.1∧Lib.split s sep=x.2.2.2++Lib.split (s.drop x.2.1) sep∧∀ j,x.2.1≤j→j<x.1→Lib.occAt s sep j=false) (fun x=>s.length-x.1) (0,0,0,[]) (Ent.trans (Ent.empT (t:=5) (sz:=1) (e:=9) (f:=(strsF [])) dC kR rfl) (Ent.of [] kR kR kR trivial)) ⟨Nat.zero_le _,Nat.zero_le _,rfl,Nat.le_refl _,rfl,fun j _ h=>absurd h (Nat.not_lt_zero _)⟩ ?_
 rintro ⟨i,a,n,acc⟩ L ⟨hi,ha,hna,hni,hq,hall⟩ again
 simp only at hi ha hna hni hq hall
 by_cases hlt:i+sep.length≤s.length
 ·have ho:=occ_at s sep i hlt
  by_cases hai:a≤i
  ·cases hoc:Lib.occAt s sep i with
   | true =>
    rw [hoc] at ho
    have ht:(bif decide ((i:Int)≥(a:Int)) then List.drop i (List.take (i+sep.length) s)==sep else false)=true:=by rw [decide_eq_true oM];exact ho.symm
    rw [split_at hs hai hi hoc hall] at hq
    have hq2:Lib.split s sep=(acc++[(s.take i).drop a])++Lib.split (s.drop (i+sep.length)) sep:=by rw [hq];simp
    have hall2:∀ j,i+sep.length≤j→j<i+1→Lib.occAt s sep j=false:=fun j h1 h2=>by omega
    have e1:BlkEqv (.row 9 1 (n+1) (catF n (strsF acc) (fun i' j=>nthD [.str ((s.take i).drop a)] ((0+i')*1+j)))) (.row 9 1 (n+1) (strsF (acc++[(s.take i).drop a]))):=strs_app acc _ hna
    have q2:n+1=(acc++[(s.take i).drop a]).length:=by simp [hna]
    clear hq hall hoc ho
    refine zg [(7,{bs:=[(6,.row 9 1 (n+1) (strsF (acc++[(s.take i).drop a])))]})] [true,true] [inR .i64 ((i:Int)+(sep.length:Int)),decide ((i:Int)+(sep.length:Int)≤(s.length:Int))=true,decide ((i:Int)≥(a:Int))=true→inR .i64 ((i:Int)+(sep.length:Int)),decide ((i:Int)≥(a:Int))=true→(0:Int)≤Int.ofNat i∧Int.ofNat i≤Int.ofNat (i+sep.length)∧Int.ofNat (i+sep.length)≤(s.length:Int),(bif decide ((i:Int)≥(a:Int)) then List.drop (Int.ofNat i).toNat (List.take (Int.ofNat (i+sep.length)).toNat s)==sep else false)=true,(0:Int)≤Int.ofNat a∧Int.ofNat a≤Int.ofNat i∧Int.ofNat i≤(s.length:Int),(n+1)*16≤140737488355328,BlkEqv (.row 9 (1:Nat) (n+(1:Nat)) (catF n (strsF acc) fun (i_1 j:Nat)=>nthD [.str (List.drop (Int.ofNat a).toNat (List.take (Int.ofNat i).toNat s))] (((0:Nat)+i_1)*(1:Nat)+j))) (.row 9 (1:Nat) (n+(1:Nat)) (strsF (acc++[List.drop a (List.take i s)]))),n≤n,0+1≤1,inR .i64 ((i:Int)+(sep.length:Int)),inR .i64 ((i:Int)+1)] ⟨i6,sO,(fun _=>i6),sO,aS,⟨(by simp;done),⟨sO,sO⟩⟩,oM,aS,oM,oM,i6,i6⟩ ?_
    exact za [(64,512)] (again _ (i+1,i+sep.length,n+1,acc++[(s.take i).drop a]) ⟨oM,⟨aS,⟨aS,⟨sO,⟨aS,aS⟩⟩⟩⟩⟩ oM)
   | false =>
    rw [hoc] at ho
    have ht:(bif decide ((i:Int)≥(a:Int)) then List.drop i (List.take (i+sep.length) s)==sep else false)=false:=by rw [decide_eq_true oM];exact ho.symm
    have hall2:∀ j,a≤j→j<i+1→Lib.occAt s sep j=false:=fun j h1 h2=>by
     rcases Nat.lt_or_ge j i with h | h
     ·exact hall j h1 h
     ·rw [show j=i from by omega];exact hoc
    clear hall hoc ho
    refine zg [] [true,false] [inR .i64 ((i:Int)+(sep.length:Int)),decide ((i:Int)+(sep.length:Int)≤(s.length:Int))=true,decide ((i:Int)≥(a:Int))=true→inR .i64 ((i:Int)+(sep.length:Int)),decide ((i:Int)≥(a:Int))=true→(0:Int)≤Int.ofNat i∧Int.ofNat i≤Int.ofNat (i+sep.length)∧Int.ofNat (i+sep.length)≤(s.length:Int),(bif decide ((i:Int)≥(a:Int)) then List.drop (Int.ofNat i).toNat (List.take (Int.ofNat (i+sep.length)).toNat s)==sep else false)=false,inR .i64 ((i:Int)+1)] ⟨i6,sO,(fun _=>i6),sO,aS,i6⟩ ?_
    exact za [] (again _ (i+1,a,n,acc) ⟨oM,⟨aS,⟨aS,⟨sO,⟨aS,aS⟩⟩⟩⟩⟩ oM)
  ·have hall2:∀ j,a≤j→j<i+1→Lib.occAt s sep j=false:=fun j h1 h2=>by omega
   clear hall ho
   refine zg [] [true,false] [inR .i64 ((i:Int)+(sep.length:Int)),decide ((i:Int)+(sep.length:Int)≤(s.length:Int))=true,decide ((i:Int)≥(a:Int))=true→inR .i64 ((i:Int)+(sep.length:Int)),decide ((i:Int)≥(a:Int))=true→(0:Int)≤Int.ofNat i∧Int.ofNat i≤Int.ofNat (i+sep.length)∧Int.ofNat (i+sep.length)≤(s.length:Int),(bif decide ((i:Int)≥(a:Int)) then List.drop (Int.ofNat i).toNat (List.take (Int.ofNat (i+sep.length)).toNat s)==sep else false)=false,inR .i64 ((i:Int)+1)] ⟨i6,sO,(fun _=>i6),sO,sO,i6⟩ ?_
   exact za [] (again _ (i+1,a,n,acc) ⟨oM,⟨aS,⟨aS,⟨sO,⟨aS,aS⟩⟩⟩⟩⟩ oM)
 ·rw [split_end hs oM hall] at hq
  rw [hq]
  have e1:BlkEqv (.row 9 1 (n+1) (catF n (strsF acc) (fun i' j=>nthD [.str ((s.take s.length).drop a)] ((0+i')*1+j)))) (.row 9 1 (n+1) (strsF (acc++[(s.take s.length).drop a]))):=strs_app acc _ hna
  have q2:n+1=(acc++[(s.take s.length).drop a]).length:=by simp [hna]
  clear hq hall
  refine zg [(9,{bs:=[(5,.row 9 1 (n+1) (strsF (acc++[(s.take s.length).drop a])))]})] [false] [inR .i64 ((i:Int)+(sep.length:Int)),decide ((i:Int)+(sep.length:Int)≤(s.length:Int))=false,(0:Int)≤Int.ofNat a∧Int.ofNat a≤Int.ofNat s.length∧Int.ofNat s.length≤(s.length:Int),(n+1)*16≤140737488355328,BlkEqv (.row 9 (1:Nat) (n+(1:Nat)) (catF n (strsF acc) fun i j=>nthD [.str (List.drop (Int.ofNat a).toNat (List.take (Int.ofNat s.length).toNat s))] (((0:Nat)+i)*(1:Nat)+j))) (.row 9 (1:Nat) (n+(1:Nat)) (strsF (acc++[List.drop a (List.take s.length s)]))),n≤n,0+1≤1] ⟨i6,sO,⟨(by simp;done),⟨sO,(by simp;done)⟩⟩,oM,aS,oM,(show (0:Nat)+(1:Nat)≤(1:Nat) from oM)⟩ ?_
  refine Wp.ent' kR (Ent.pubT (t:=4) (e:=9) (sz:=(1:Nat)) (id:=272) (off:=(0:Nat)) (m:=n+(1:Nat)) (n:=n+(1:Nat)) (f:=strsF (acc++[List.drop a (List.take s.length s)])) (m':=(acc++[List.drop a (List.take s.length s)]).length) (f':=strsF (acc++[List.drop a (List.take s.length s)])) kR kR oM aS (fun i _ j _=>by rw [Nat.zero_add]) rfl) ?_
  exact zr
theorem dropM {α:Type} (l:List α) (d:α) (k:Nat) (h:k<l.length):l.drop k=l.getD k d::l.drop (k+1):=by
 rw [List.drop_eq_getElem_cons h];simp [List.getD,h]
theorem splitK_len (sep:List UInt8):∀ (k:Nat) (s:List UInt8),∀ x∈Lib.splitK sep 0 k s,x.length≤s.length
 | 0,s,x,hx=>by simp [Lib.splitK] at hx; subst hx; exact Nat.le_refl _
 | k+1,s,x,hx=>by
  unfold Lib.splitK at hx
  split at hx
  ·simp at hx;subst hx;exact Nat.le_refl _
  ·rcases List.mem_cons.1 hx with rfl | hx
   ·simp only [List.length_take];omega
   ·have:=splitK_len sep k _ x hx
    rw [List.length_drop] at this
    omega
theorem split_el (s sep:List UInt8) (k:Nat):((Lib.split s sep).getD k []).length≤s.length:=by
 rw [List.getD_eq_getElem?_getD]
 cases h:(Lib.split s sep)[k]? with
 | none=>simp
 | some x=>exact splitK_len sep _ s x (List.mem_of_getElem? h)
def nvS (t:List UInt8) (n:Nat):Nat:=t.foldl (fun n c=>n*10+(c.toNat-48)) n
def nv (t:List UInt8):Nat:=nvS t 0
theorem nv_snoc (t:List UInt8) (c:UInt8):nv (t++[c])=nv t*10+(c.toNat-48):=by simp [nv,nvS]
theorem nvS_cons (c:UInt8) (t:List UInt8) (n:Nat):nvS (c::t) n=nvS t (n*10+(c.toNat-48)):=by simp only [nvS,List.foldl_cons]
theorem nvS_ge:∀ (t:List UInt8) (n:Nat),n≤nvS t n
 | [],n=>Nat.le_refl _
 | c::t,n=>by rw [nvS_cons]; have:=nvS_ge t (n*10+(c.toNat-48)); omega
theorem dec_step {m:Nat} (h:¬ m<10):Lib.decDigits m=Lib.decDigits (m / 10)++[UInt8.ofNat (48+m%10)]:=by
 conv=>lhs;rw [Lib.decDigits,dif_neg h]
theorem dig_to {c:UInt8} (h:digitB c=true):48≤c.toNat∧c.toNat≤57:=by
 unfold digitB at h
 simp only [Bool.and_eq_true,decide_eq_true_eq,UInt8.le_iff_toNat_le] at h
 exact ⟨h.1,h.2⟩
theorem ofNat_dig {d:Nat} (h:d<10):(UInt8.ofNat (48+d)).toNat=48+d:=by
 simp;omega
theorem dig_of {d:Nat} (h:d<10):digitB (UInt8.ofNat (48+d))=true:=by
 have:=ofNat_dig h
 unfold digitB
 simp only [Bool.and_eq_true,decide_eq_true_eq,UInt8.le_iff_toNat_le,this]
 refine ⟨?_,?_⟩
 ·show 48≤_;omega
 ·show _≤57;omega
theorem nv_dec (m:Nat):nv (Lib.decDigits m)=m:=by
 induction m using Nat.strongRecOn with
 | _ m ih =>
  by_cases h:m<10
  ·rw [Lib.decDigits_one h]
   show 0*10+((UInt8.ofNat (48+m)).toNat-48)=m
   rw [ofNat_dig h];omega
  ·rw [dec_step h,nv_snoc,ih _ oM,ofNat_dig oM];omega
theorem dec_all (m:Nat):(Lib.decDigits m).all digitB=true:=by
 induction m using Nat.strongRecOn with
 | _ m ih =>
  by_cases h:m<10
  ·rw [Lib.decDigits_one h,List.all_cons,dig_of h];rfl
  ·rw [dec_step h,List.all_append,ih _ oM,List.all_cons,dig_of (show m%10<10 by omega)];rfl
theorem dec_ne (m:Nat):Lib.decDigits m≠[]:=by
 by_cases h:m<10
 ·rw [Lib.decDigits_one h];simp
 ·rw [dec_step h];simp
theorem dec_head (m:Nat) (h1:1≤m):(Lib.decDigits m).getD 0 0≠48:=by
 induction m using Nat.strongRecOn with
 | _ m ih =>
  by_cases h:m<10
  ·rw [Lib.decDigits_one h]
   intro hc
   have hc:UInt8.ofNat (48+m)=48:=hc
   have:=congrArg UInt8.toNat hc
   rw [ofNat_dig h] at this
   have:48+m=48:=this
   omega
  ·rw [dec_step h]
   have:=ih (m / 10) oM oM
   have hn:=dec_ne (m / 10)
   cases hd:Lib.decDigits (m / 10) with
   | nil=>exact (hn hd).elim
   | cons a r=>rw [hd] at this; simpa using this
theorem dec_len_le:∀ (k m:Nat),m<10^(k+1)→(Lib.decDigits m).length≤k+1
 | 0,m,h=>by rw [Lib.decDigits_one (by simpa using h)]; simp
 | k+1,m,h=>by
  by_cases h10:m<10
  ·rw [Lib.decDigits_one h10];simp
  ·rw [dec_step h10,List.length_append]
   have:=dec_len_le k (m / 10) (by rw [Nat.pow_succ] at h;omega)
   simp;omega
def canonB (t:List UInt8):Bool:=t.all digitB&&(!(t==[]) && !(decide (1<t.length)&&(t.getD 0 0==48)))
theorem canon_dec (m:Nat):canonB (Lib.decDigits m)=true:=by
 unfold canonB
 rw [dec_all]
 have h1:(Lib.decDigits m==[])=false:=by simpa using dec_ne m
 rw [h1]
 by_cases h:m<10
 ·rw [Lib.decDigits_one h];rfl
 ·have:=dec_head m oM
  have h2:((Lib.decDigits m).getD 0 0==48)=false:=by simpa using this
  rw [h2];simp
theorem nv_lt:∀ (k:Nat) (t:List UInt8),t.length≤k→t.all digitB=true→nv t<10^k
 | 0,t,h,_=>by
  have:t=[]:=List.length_eq_zero_iff.1 oM
  subst this;decide
 | k+1,t,h,ha=>by
  rcases List.eq_nil_or_concat t with rfl | ⟨r,c,rfl⟩
  ·show 0<_;exact Nat.pow_pos oM
  ·rw [List.concat_eq_append] at *
   simp only [List.all_append,Bool.and_eq_true,List.all_cons,List.all_nil,Bool.and_true] at ha
   have:=nv_lt k r (by simp at h;omega) ha.1
   have hd:=dig_to ha.2
   rw [nv_snoc,Nat.pow_succ];omega
def ageL (S:List UInt8):List UInt8→Nat→Int
 | [],n=>if decide (n>1099511627776) || !(Lib.decDigits n==S) then -1 else (n:Int)
 | c::r,n=>if !digitB c||decide (n>1099511627776) then -1 else ageL S r (n*10+(c.toNat-48))
def ageT (s:List UInt8):Int:=ageL s s 0
theorem ageL_all (S:List UInt8):∀ (r:List UInt8) (n:Nat),r.all digitB=true→nvS r n≤1099511627776→ageL S r n=ageL S [] (nvS r n)
 | [],n,_,_=>rfl
 | c::r,n,ha,hm=>by
  simp only [List.all_cons,Bool.and_eq_true] at ha
  rw [nvS_cons] at hm ⊢
  have:=nvS_ge r (n*10+(c.toNat-48))
  have hd:decide (n>1099511627776)=false:=by simp;omega
  conv=>lhs;unfold ageL
  rw [ha.1,hd,if_neg dC,ageL_all S r _ ha.2 hm]
theorem age_dec (m:Nat) (h:m≤1099511627776):ageT (Lib.decDigits m)=m:=by
 unfold ageT
 have h1:=nv_dec m
 unfold nv at h1
 rw [ageL_all _ _ _ (dec_all m) (by rw [h1];exact h),h1]
 unfold ageL
 rw [if_neg sO]
def numK (K:Nat) (s:List UInt8):Bool:=decide (s.length≤K)&&canonB s
theorem numK_yes {K:Nat} (hK:K≤15) (s:List UInt8) (h:numK K s=true):Pur Tryz.prog G 57 [.c (.str s),.c (.int .i64 (K:Int))] [.c (.int .i64 ((nv s:Nat):Int)),.c (.bool true)]:=by
 refine zp Tryz.func57 ?_
 unfold numK canonB at h
 simp only [Bool.and_eq_true,decide_eq_true_eq,Bool.not_eq_true'] at h
 obtain ⟨hl,hd,hne,hh⟩:=h
 have c:=All_digit (G:=G) s oM
 rw [hd] at c
 have hp:0<s.length:=by
  cases s with
  | nil=>simp at hne
  | cons a r=>simp
 have hi0:(((s.getD 0 0).toNat:Int)==48)=(s.getD 0 0==48):=ibeq (s.getD 0 0) 48
 have ht:(bif bif bif s==[] then true else decide ((s.length:Int)>(K:Int)) then true else !true then true else bif decide ((s.length:Int)>1) then ((s.getD 0 0).toNat:Int)==48 else false)=false:=by
  rw [hne,hi0,decide_eq_false (show ¬ ((s.length:Int)>(K:Int)) by omega)]
  by_cases h1:1<s.length
  ·rw [decide_eq_true h1,Bool.true_and] at hh
   rw [hh,decide_eq_true (show (s.length:Int)>1 by omega)];rfl
  ·rw [decide_eq_false (show ¬ ((s.length:Int)>1) by omega)];rfl
 have hall:∀ k,k<s.length→digitB (s.getD k 0)=true:=fun k hk=>by
  rw [List.all_eq_true] at hd
  exact hd _ (by simp [List.getD,hk])
 have hlt:∀ k,k≤s.length→nv (s.take k)<10^K:=fun k hk=>nv_lt K _ sO (by rw [List.all_eq_true] at hd ⊢;exact fun x hx=>hd x (List.mem_of_mem_take hx))
 have hnv:∀ k,k<s.length→nv (s.take (k+1))=nv (s.take k)*10+((s.getD k 0).toNat-48):=fun k hk=>by
  rw [List.take_succ_eq_append_getElem hk,nv_snoc];simp [List.getD,hk]
 have hi1:0≤(0:Int)∧(0:Int)<(s.length:Int):=by omega
 clear hd hh hne hi0
 refine zg [(1,{cs:=[(10,pc c)]})] [false] [decide ((s.length:Int)>(1:Int))=true∧(bif bif s==[] then true else decide ((s.length:Int)>(K:Int)) then true else !true)=false→(0:Int)≤(0:Int)∧(0:Int)<(s.length:Int),(bif bif bif s==[] then true else decide ((s.length:Int)>(K:Int)) then true else !true then true else bif decide ((s.length:Int)>(1:Int)) then (↑(s.getD (0:Nat) (0:UInt8)).toNat:Int)==(48:Int) else false)=false] ⟨oM,(show (bif bif bif s==[] then true else decide ((↑s.length:Int)>(↑K:Int)) then true else !true then true else bif decide ((↑s.length:Int)>(1:Int)) then (↑(s.getD (0:Nat) (0:UInt8)).toNat:Int)==(48:Int) else false)=false from aS)⟩ ?_
 refine zl (fun (x:Nat×Nat)=>⟨[(0,.v (.c (.str s))),(6,.v (.c (.int .i64 (x.2:Int)))),(32,.v (.c (.int .i64 (s.length:Int)))),(33,.v (.c (.int .i64 (x.1:Int))))],[],448⟩) (fun x=>x.1≤s.length∧x.2=nv (s.take x.1)) (fun x=>s.length-x.1) (0,0) ⟨Nat.zero_le _,rfl⟩ ?_
 rintro ⟨k,n⟩ L ⟨hk,hn⟩ again
 simp only at hk hn
 rcases Nat.lt_or_ge k s.length with hlk | hge
 ·have hb:=dig_to (hall k hlk)
  have hlim:=hlt k hk
  rw [← hn] at hlim
  have hn2:n*10+((s.getD k 0).toNat-48)=nv (s.take (k+1)):=by rw [hnv k hlk,hn]
  have ew:IntKind.u8.wrap (((s.getD k 0).toNat:Int)-48)=(((s.getD k 0).toNat-48:Nat):Int):=by rw [wrap8 oM oM];omega
  have ew2:IntKind.i64.wrap (((s.getD k 0).toNat-48:Nat):Int)=(((s.getD k 0).toNat-48:Nat):Int):=wrap64 oM oM
  have e7:EqvD (.c (.int .u8 (IntKind.u8.wrap (((s.getD k 0).toNat:Int)-48)))) (.c (.int .u8 (((s.getD k 0).toNat-48:Nat):Int))):=eqvD_of (by rw [ew])
  have e8:EqvD (.c (.int .i64 (IntKind.i64.wrap (((s.getD k 0).toNat-48:Nat):Int)))) (.c (.int .i64 (((s.getD k 0).toNat-48:Nat):Int))):=eqvD_of (by rw [ew2])
  have e9:EqvD (.c (.int .i64 ((n:Int)*10+(((s.getD k 0).toNat-48:Nat):Int)))) (.c (.int .i64 ((n*10+((s.getD k 0).toNat-48):Nat):Int))):=eqvD_of (by rw [show (n:Int)*10+(((s.getD k 0).toNat-48:Nat):Int)=((n*10+((s.getD k 0).toNat-48):Nat):Int) from by omega])
  have hlim2:n<1000000000000000:=Nat.lt_of_lt_of_le hlim (Nat.pow_le_pow_right (n:=10) dC hK)
  clear ew ew2 hlt hnv hall ht hlim hn
  refine zg [(7,{fm:=[(5,.c (.int .u8 (((s.getD k 0).toNat-48:Nat):Int))),(6,.c (.int .i64 (((s.getD k 0).toNat-48:Nat):Int))),(7,.c (.int .i64 ((n*10+((s.getD k 0).toNat-48):Nat):Int)))]})] [true] [decide ((k:Int)<(s.length:Int))=true,inR .i64 ((n:Int)*10),(0:Int)≤(k:Int)∧(k:Int)<(s.length:Int),EqvI (.c (.int .u8 (IntKind.u8.wrap ((↑(s.getD k (0:UInt8)).toNat:Int)-(48:Int))))) (.c (.int .u8 (↑((s.getD k (0:UInt8)).toNat-(48:Nat)):Int))),EqvD (.c (.int .u8 (IntKind.u8.wrap ((↑(s.getD k (0:UInt8)).toNat:Int)-(48:Int))))) (.c (.int .u8 (↑((s.getD k (0:UInt8)).toNat-(48:Nat)):Int))),EqvI (.c (.int .i64 (IntKind.i64.wrap (↑((s.getD k (0:UInt8)).toNat-(48:Nat)):Int)))) (.c (.int .i64 (↑((s.getD k (0:UInt8)).toNat-(48:Nat)):Int))),EqvD (.c (.int .i64 (IntKind.i64.wrap (↑((s.getD k (0:UInt8)).toNat-(48:Nat)):Int)))) (.c (.int .i64 (↑((s.getD k (0:UInt8)).toNat-(48:Nat)):Int))),EqvI (.c (.int .i64 ((n:Int)*(10:Int)+(↑((s.getD k (0:UInt8)).toNat-(48:Nat)):Int)))) (.c (.int .i64 (↑(n*(10:Nat)+((s.getD k (0:UInt8)).toNat-(48:Nat))):Int))),EqvD (.c (.int .i64 ((n:Int)*(10:Int)+(↑((s.getD k (0:UInt8)).toNat-(48:Nat)):Int)))) (.c (.int .i64 (↑(n*(10:Nat)+((s.getD k (0:UInt8)).toNat-(48:Nat))):Int))),inR .i64 ((n:Int)*(10:Int)+(↑((s.getD k (0:UInt8)).toNat-(48:Nat)):Int)),inR .i64 ((k:Int)+1)] ⟨sO,i6,oM,fun _ _=>trivial,aS,fun _ _=>trivial,aS,fun _ _=>trivial,aS,i6,i6⟩ ?_
  exact za [] (again _ (k+1,n*10+((s.getD k 0).toNat-48)) ⟨aS,aS⟩ oM)
 ·rw [List.take_of_length_le hge] at hn
  subst hn
  clear hlt hnv hall ht
  refine zg [] [false] [decide ((k:Int)<(s.length:Int))=false] (oN sO) ?_
  exact zr
theorem numK_no {K:Nat} (s:List UInt8) (hl:s.length<1000000000) (h:numK K s=false):Pur Tryz.prog G 57 [.c (.str s),.c (.int .i64 (K:Int))] [.c (.int .i64 0),.c (.bool false)]:=by
 refine zp Tryz.func57 ?_
 have c:=All_digit (G:=G) s oM
 have hi0:(((s.getD 0 0).toNat:Int)==48)=(s.getD 0 0==48):=ibeq (s.getD 0 0) 48
 have hi1:decide ((s.length:Int)>1)=true→0≤(0:Int)∧(0:Int)<(s.length:Int):=fun h=>by have:=of_decide_eq_true h;omega
 have ht:(bif bif bif s==[] then true else decide ((s.length:Int)>(K:Int)) then true else !s.all digitB then true else bif decide ((s.length:Int)>1) then ((s.getD 0 0).toNat:Int)==48 else false)=true:=by
  rw [hi0]
  unfold numK canonB at h
  revert h
  have hd1:decide ((s.length:Int)>(K:Int)) = !decide (s.length≤K):=by by_cases hh:s.length≤K<;>simp [hh]<;>omega
  have hd2:decide ((s.length:Int)>1)=decide (1<s.length):=by by_cases hh:1<s.length<;>simp [hh]<;>omega
  rw [hd1,hd2]
  cases (s==[])<;>cases decide (s.length≤K)<;>cases (s.all digitB)<;>cases decide (1<s.length)<;>cases (s.getD 0 0==48)<;>decide
 clear h hi0
 refine zg [(1,{cs:=[(10,pc c)]})] [true] [decide ((s.length:Int)>(1:Int))=true∧(bif bif s==[] then true else decide ((s.length:Int)>(K:Int)) then true else !s.all digitB)=false→(0:Int)≤(0:Int)∧(0:Int)<(s.length:Int),(bif bif bif s==[] then true else decide ((s.length:Int)>(K:Int)) then true else !s.all digitB then true else bif decide ((s.length:Int)>(1:Int)) then (↑(s.getD (0:Nat) (0:UInt8)).toNat:Int)==(48:Int) else false)=true] ⟨sO,(show (bif bif bif s==[] then true else decide ((↑s.length:Int)>(↑K:Int)) then true else !s.all digitB then true else bif decide ((↑s.length:Int)>(1:Int)) then (↑(s.getD (0:Nat) (0:UInt8)).toNat:Int)==(48:Int) else false)=true from aS)⟩ ?_
 exact zr
def mayM (m:MT):Bool:=bif bif fieldedT m then decide ((m.body.length:Int)≤4096) else false then decide (((aheadT m).length:Int)≤2048) else false
structure FitM (m:MT):Prop where
 hn:m.head.length<4611686018427387904
 hs:∀ f∈m.head,f.name.length≤140737488355328∧f.value.length≤140737488355328
 hb:m.body.length≤140737488355328
 hA:(aheadT m).length≤100000000000000
theorem fielded_f (m:MT) (h:FitM m):Pur Tryz.prog G 160 [.agg (encM m)] [.c (.bool (fieldedT m))]:=fielded_ok m h.hn h.hs
theorem ahead_f (hp:HasPow G) (m:MT) (h:FitM m):Pur Tryz.prog G 114 [.agg (encM m)] [.c (.str (aheadT m))]:=ahead_ok hp m h.hn h.hb h.hA
theorem mayM_ok (hp:HasPow G) (m:MT) (h:FitM m):Pur Tryz.prog G 111 [.agg (encM m)] [.c (.bool (mayM m))]:=by
 refine zp Tryz.func111 ?_
 have c1:=fielded_f (G:=G) m h
 have c2:=ahead_f hp m h
 refine z0 [(1,{cs:=[(1,pc c1),(10,pc c2)]})] [] ?_
 exact zr
theorem printM_ok (hp:HasPow G) (m:MT) (h:FitM m):Pur Tryz.prog G 62 [.agg (encM m)] [.c (.str (aheadT m++m.body))]:=by
 refine zp Tryz.func62 ?_
 have c2:=ahead_f hp m h
 have h1:=h.hA
 have h2:=h.hb
 refine zg [(1,{cs:=[(1,pc c2)]})] [] [(aheadT m).length+m.body.length≤9223372036854775807] (oN oM) ?_
 exact zr
def statedT (n:Int):Bool:=bif decide (n≥100) then decide (n≤599) else false
theorem stated_ok (n:Int):Pur Tryz.prog G 58 [.c (.int .i64 n)] [.c (.bool (statedT n))]:=by
 refine zp Tryz.func58 ?_
 refine z0 [] [] ?_
 exact zr
def reasonT (n:Int):List UInt8:=if n=200 then [79,75] else if n=302 then [70,111,117,110,100] else if n=400 then [66,97,100,32,82,101,113,117,101,115,116] else if n=401 then [85,110,97,117,116,104,111,114,105,122,101,100] else if n=403 then [70,111,114,98,105,100,100,101,110] else if n=404 then [78,111,116,32,70,111,117,110,100] else if n=405 then [77,101,116,104,111,100,32,78,111,116,32,65,108,108,111,119,101,100] else if n=413 then [67,111,110,116,101,110,116,32,84,111,111,32,76,97,114,103,101] else if n=503 then [83,101,114,118,105,99,101,32,85,110,97,118,97,105,108,97,98,108,101] else [79,116,104,101,114]
theorem reason_ok (n:Int):Pur Tryz.prog G 113 [.c (.int .i64 n)] [.c (.str (reasonT n))]:=by
 refine zp Tryz.func113 ?_
 refine z0 [] [] ?_
 refine zc (n==(200:Int)) (fun h0 => ?_) (fun h0 => ?_)
 ·have g0:=eq_of_beq h0
  refine z0 [] [] ?_
  exact zS [.c (.str [(79:UInt8),75])] (by simp [reasonT, *];done)
 ·have g0:=ne_of_beq_false h0
  refine z0 [] [] ?_
  refine zc (n==(302:Int)) (fun h1 => ?_) (fun h1 => ?_)
  ·have g1:=eq_of_beq h1
   refine z0 [] [] ?_
   exact zS [.c (.str [(70:UInt8),111,117,110,100])] (by simp [reasonT, *];done)
  ·have g1:=ne_of_beq_false h1
   refine z0 [] [] ?_
   refine zc (n==(400:Int)) (fun h2 => ?_) (fun h2 => ?_)
   ·have g2:=eq_of_beq h2
    refine z0 [] [] ?_
    exact zS [.c (.str [(66:UInt8),97,100,32,82,101,113,117,101,115,116])] (by simp [reasonT, *];done)
   ·have g2:=ne_of_beq_false h2
    refine z0 [] [] ?_
    refine zc (n==(401:Int)) (fun h3 => ?_) (fun h3 => ?_)
    ·have g3:=eq_of_beq h3
     refine z0 [] [] ?_
     exact zS [.c (.str [(85:UInt8),110,97,117,116,104,111,114,105,122,101,100])] (by simp [reasonT, *];done)
    ·have g3:=ne_of_beq_false h3
     refine z0 [] [] ?_
     refine zc (n==(403:Int)) (fun h4 => ?_) (fun h4 => ?_)
     ·have g4:=eq_of_beq h4
      refine z0 [] [] ?_
      exact zS [.c (.str [(70:UInt8),111,114,98,105,100,100,101,110])] (by simp [reasonT, *];done)
     ·have g4:=ne_of_beq_false h4
      refine z0 [] [] ?_
      refine zc (n==(404:Int)) (fun h5 => ?_) (fun h5 => ?_)
      ·have g5:=eq_of_beq h5
       refine z0 [] [] ?_
       exact zS [.c (.str [(78:UInt8),111,116,32,70,111,117,110,100])] (by simp [reasonT, *];done)
      ·have g5:=ne_of_beq_false h5
       refine z0 [] [] ?_
       refine zc (n==(405:Int)) (fun h6 => ?_) (fun h6 => ?_)
       ·have g6:=eq_of_beq h6
        refine z0 [] [] ?_
        exact zS [.c (.str [(77:UInt8),101,116,104,111,100,32,78,111,116,32,65,108,108,111,119,101,100])] (by simp [reasonT, *];done)
       ·have g6:=ne_of_beq_false h6
        refine z0 [] [] ?_
        refine zc (n==(413:Int)) (fun h7 => ?_) (fun h7 => ?_)
        ·have g7:=eq_of_beq h7
         refine z0 [] [] ?_
         exact zS [.c (.str [(67:UInt8),111,110,116,101,110,116,32,84,111,111,32,76,97,114,103,101])] (by simp [reasonT, *];done)
        ·have g7:=ne_of_beq_false h7
         refine z0 [] [] ?_
         refine zc (n==(503:Int)) (fun h8 => ?_) (fun h8 => ?_)
         ·have g8:=eq_of_beq h8
          refine z0 [] [] ?_
          exact zS [.c (.str [(83:UInt8),101,114,118,105,99,101,32,85,110,97,118,97,105,108,97,98,108,101])] (by simp [reasonT, *];done)
         ·have g8:=ne_of_beq_false h8
          refine z0 [] [] ?_
          exact zS [.c (.str [(79:UInt8),116,104,101,114])] (by simp [reasonT, *];done)
theorem reason_len (n:Int):(reasonT n).length≤30:=by
 unfold reasonT
 repeat' split
 all_goals decide
def toldM (r:RT):MT:=⟨[72,84,84,80,47,49,46,49,32]++Lib.itoa r.status++[32]++reasonT r.status,r.head,r.body⟩
theorem itoa_len (n:Int) (h0:0≤n) (h1:n≤1000):(Lib.itoa n).length≤1001:=by
 obtain ⟨k,rfl⟩:=Int.eq_ofNat_of_zero_le h0
 exact Nat.le_trans (dec_len k) oM
theorem told_ok (hp:HasPow G) (r:RT) (h0:0≤r.status) (h1:r.status≤1000):Pur Tryz.prog G 61 [.agg (encT r)] [.agg (encM (toldM r)++encT r)]:=by
 refine zp Tryz.func61 ?_
 have h3:=itoa_len r.status h0 h1
 have h4:=reason_len r.status
 refine zg [(1,{cs:=[(2,pc (itoa_p hp r.status oM oM)),(7,pc (reason_ok (G:=G) r.status))]})] [] [9+(Lib.itoa r.status).length≤9223372036854775807,([(72:UInt8),84,84,80,47,49,46,49,32]++Lib.itoa r.status).length+(1:Nat)≤(9223372036854775807:Nat),([(72:UInt8),84,84,80,47,49,46,49,32]++Lib.itoa r.status++[(32:UInt8)]).length+(reasonT r.status).length≤(9223372036854775807:Nat)] ⟨oM,sO,(show ([(72:UInt8),84,84,80,47,49,46,49,32]++Lib.itoa r.status++[(32:UInt8)]).length+(reasonT r.status).length≤(9223372036854775807:Nat) from sO)⟩ ?_
 exact zr
def mayTell (r:RT):Bool:=bif statedT r.status then mayM (toldM r) else false
theorem mayTell_ok (hp:HasPow G) (r:RT) (h0:0≤r.status) (h1:r.status≤1000) (h:FitM (toldM r)):Pur Tryz.prog G 60 [.agg (encT r)] [.c (.bool (mayTell r))]:=by
 refine zp Tryz.func60 ?_
 have c:=mayM_ok hp (toldM r) h
 refine z0 [(1,{cs:=[(2,pc (stated_ok (G:=G) r.status)),(5,pc (told_ok hp r aS aS)),(7,pc c)]})] [] ?_
 exact zr
def printTell (r:RT):List UInt8:=if mayTell r then aheadT (toldM r)++r.body else []
theorem printTell_ok (hp:HasPow G) (r:RT) (h0:0≤r.status) (h1:r.status≤1000) (h:FitM (toldM r)):Pur Tryz.prog G 14 [.agg (encT r)] [.c (.str (printTell r))]:=by
 refine zp Tryz.func14 ?_
 have c1:=mayTell_ok hp r h0 h1 h
 have c:=printM_ok hp (toldM r) h
 refine z0 [(1,{cs:=[(1,pc c1)]})] [] ?_
 refine zc (!mayTell r) (fun h0 => ?_) (fun h0 => ?_)
 ·have g0:=h0
  simp at g0
  refine z0 [] [] ?_
  exact zS [.c (.str [])] (by simp [printTell, *];done)
 ·have g0:=h0
  simp at g0
  refine z0 [(3,{cs:=[(1,pc (told_ok hp r aS aS)),(3,pc c)]})] [] ?_
  exact zS [.c (.str (aheadT (toldM r)++(toldM r).body))] (by rw [printTell,if_pos (show mayTell r=true from by simpa using h0)];rfl)
theorem CEqs.at {l l':List Cell} (h:CEqs l l'):∀ (j:Nat) (y:Cell),l'[j]?=some y→∃ x,l[j]?=some x∧CEq x y:=by
 induction h with
 | nil=>intro j y hj; simp at hj
 | cons h1 h2 ih =>
  intro j y hj
  cases j with
  | zero=>simp at hj; subst hj; exact ⟨_,by simp,h1⟩
  | succ j=>simp at hj; obtain ⟨x,hx,hc⟩:=ih j y hj; exact ⟨x,by simpa using hx,hc⟩
theorem BlkEqv.boxOf {e:TypeId} {cs cs':List Cell} (h:CEqs cs cs') (hf:flats cs'=true):BlkEqv (.box e cs) (.box e cs'):=by
 refine ⟨fun D ρ id w hs => ?_,fun S _=>flats_inS hf S⟩
 obtain ⟨h0,vs,fz,h1,h2,h3,h4⟩:=hs
 refine ⟨by rw [← h.len];exact h0,vs,fz,h1,by rw [h2,h.len],h3,fun j y hj => ?_⟩
 obtain ⟨x,hx,hc⟩:=h.at j y hj
 obtain ⟨u,hu,hd⟩:=h4 j x hx
 exact ⟨u,hu,hc _ _ _ hd⟩
def clN:List UInt8:=[99,111,110,116,101,110,116,45,108,101,110,103,116,104]
def notCl (f:FT):Bool := !(f.name==clN)
def tgB (c:UInt8):Bool:=33≤c&&c≤126
def targT (s:List UInt8):Bool:=s.all tgB&&(decide (1≤s.length)&&decide (s.length≤1024))
def hdC (s:List UInt8):List UInt8×List UInt8×Bool:=Lib.cut s [13,10,13,10]
def bigH (s:List UInt8):Bool:=bif (hdC s).2.2 then decide (((hdC s).1.length:Int)+4>2048) else decide ((s.length:Int)>2048)
def linesH (s:List UInt8):List (List UInt8):=Lib.split (hdC s).1 [13,10]
def splitH (s:List UInt8):Int:=if bigH s then 4 else if (hdC s).2.2=false then 3 else if (linesH s).length>25 then 4 else 0
def lineF (p:List UInt8):FT:=⟨foldT (Lib.cut p [58,32]).1,(Lib.cut p [58,32]).2.1⟩
def okL (p:List UInt8):Bool:=(Lib.cut p [58,32]).2.2&&(tokenT (Lib.cut p [58,32]).1&&(Lib.cut p [58,32]).2.1.all seenB)
def okA (acc:List FT) (p:List UInt8):Bool:=okL p && !(fGet acc (lineF p).name).isSome
def fieldsA:List (List UInt8)→List FT→List FT
 | [],acc=>acc
 | p::r,acc=>if okA acc p then fieldsA r (acc++[lineF p]) else acc
def fieldsO:List (List UInt8)→List FT→Bool
 | [],_=>true
 | p::r,acc=>if okA acc p then fieldsO r (acc++[lineF p]) else false
def fieldsL (s:List UInt8):List (List UInt8):=(linesH s).drop 1
def firstH (s:List UInt8):List UInt8:=(linesH s).getD 0 []
def szE (z:List UInt8) (d:Bool) (b:List UInt8):Int:=if d then (if numK 9 z=false then 3 else if nv z>4096 then 4 else if nv z=b.length then 0 else 3) else if b=[] then 0 else 3
def bodyE (l:List FT) (b:List UInt8):Int:=szE ((fGet l clN).getD []) (fGet l clN).isSome b
def verS:List UInt8:=[72,84,84,80,47,49,46,49,32]
def tellC (s:List UInt8):List UInt8×List UInt8×Bool:=Lib.cut (Lib.trimPrefix s verS) [32]
def tellN (s:List UInt8):Int:=if numK 3 (tellC s).1 then ((nv (tellC s).1:Nat):Int) else 0
def tellB (s:List UInt8):Bool:=Lib.hasPrefix s verS&&((tellC s).2.2&&(numK 3 (tellC s).1&&(statedT (tellN s)&&(tellC s).2.1.all seenB)))
def readH (line:List UInt8→Bool) (s:List UInt8):List FT×Int :=
 if splitH s≠0 then ([],splitH s) else if line (firstH s)=false then ([],3) else if fieldsO (fieldsL s) []=false then ([],3) else
  if bodyE (fieldsA (fieldsL s) []) (hdC s).2.1=0 then ((fieldsA (fieldsL s) []).filter notCl,0) else ([],bodyE (fieldsA (fieldsL s) []) (hdC s).2.1)
def nilR:RT:=⟨0,[],[]⟩
def parseR (s:List UInt8):RT×Int:=if (readH tellB s).2=0 then (⟨tellN (firstH s),(readH tellB s).1,(hdC s).2.1⟩,0) else (nilR,(readH tellB s).2)
theorem splitK_nil (sep:List UInt8) (k:Nat) (s:List UInt8):Lib.splitK sep 0 k s≠[]:=by
 cases k with
 | zero=>simp [Lib.splitK]
 | succ k=>unfold Lib.splitK; split<;>simp
theorem lib_CutPrefix (s p:List UInt8):Pur Tryz.prog G 55 [.c (.str s),.c (.str p)] [.c (.str (Lib.trimPrefix s p)),.c (.bool (Lib.hasPrefix s p))]:=by
 refine Pur.of_below rfl ?_
 intro D ρ w vs h1 _ _ _
 obtain ⟨u,v,rfl,hu,hv⟩:=h1.two
 have hu:u = .string ⟨s.toArray⟩:=hu
 have hv:v = .string ⟨p.toArray⟩:=hv
 subst hu hv
 refine (Go.Proofs.Tryz.strings_CutPrefix ⟨s.toArray⟩ ⟨p.toArray⟩ w).mono ?_
 rintro e w' ⟨rfl,rfl⟩
 refine ⟨_,rfl,⟨_,rfl,rfl,fun j x hj => ?_⟩,Below.refl _ _⟩
 match j,hj with
 | 0,hj=>simp at hj; subst hj; exact ⟨_,rfl,rfl⟩
 | 1,hj=>simp at hj; subst hj; exact ⟨_,rfl,rfl⟩
 | j+2,hj=>simp at hj
theorem tellL_ok (hL:HasLen G) (s:List UInt8) (n:Int) (hl:s.length<1000000000):FnB Tryz.prog G 54 [.box 39 [.int .i64 n,.nilsl,.str []]] [.c (.str s),.c (.ptr 0 0)] [.c (.bool (tellB s))] [(0,.box 39 [.int .i64 (tellN s),.nilsl,.str []])]:=by
 refine zf Tryz.func54 ?_
 obtain ⟨mx,hG⟩:=hL
 have c1:=lib_CutPrefix (G:=G) s verS
 have hp:(Lib.trimPrefix s verS).length≤s.length:=by
  unfold Lib.trimPrefix
  split
  ·rw [List.length_drop];omega
  ·omega
 have c2:Pur Tryz.prog G 56 [.c (.str (Lib.trimPrefix s verS)),.c (.str [32])] [.c (.str (tellC s).1),.c (.str (tellC s).2.1),.c (.bool (tellC s).2.2)]:=lib_Cut hG _ [32] oM
 have hc:=cut_len (Lib.trimPrefix s verS) [32]
 have hc1:(tellC s).1.length<1000000000:=by unfold tellC;omega
 have hc2:(tellC s).2.1.length<1000000000:=by unfold tellC;omega
 have c3:Pur Tryz.prog G 57 [.c (.str (tellC s).1),.c (.int .i64 3)] [.c (.int .i64 (tellN s)),.c (.bool (numK 3 (tellC s).1))]:=by
  unfold tellN
  cases hk:numK 3 (tellC s).1 with
  | true=>rw [if_pos rfl]; exact numK_yes (K:=3) dC _ hk
  | false=>rw [if_neg dC]; exact numK_no (K:=3) _ hc1 hk
 have c4:=stated_ok (G:=G) (tellN s)
 have c5:=seen_ok (G:=G) (tellC s).2.1 oM
 have e:tellB s=(bif bif bif bif Lib.hasPrefix s verS then (tellC s).2.2 else false then numK 3 (tellC s).1 else false then statedT (tellN s) else false then (tellC s).2.1.all seenB else false):=by
  unfold tellB
  cases Lib.hasPrefix s verS<;>cases (tellC s).2.2<;>cases numK 3 (tellC s).1<;>cases statedT (tellN s)<;>rfl
 rw [e]
 generalize tellN s=N at c3 c4 ⊢
 generalize tellC s=C at c2 c3 c5 ⊢
 refine z0 [(1,{cs:=[(1,pc c1)]}),(2,{cs:=[(1,pc c2)]}),(3,{cs:=[(1,pc c3)]}),(5,{cs:=[(9,pc c4),(13,pc c5)]})] [] ?_
 exact zb []
def rdB (f:List UInt8) (h:Cell) (b:List UInt8) (l:Cell) (z:List UInt8) (d:Bool):Blk := .box 103 [.str f,h,.str b,l,.str z,.bool d]
def rdZ:Blk:=rdB [] .nilsl [] .nilsl [] false
def encL (l:List (List UInt8)):Cell := .sl 1 l.length (strsF l)
theorem rdz_eqv (b:List UInt8) (l:List (List UInt8)) (f:List UInt8):BlkEqv (rdB f .nilsl b (encL l) [] false) (rdB f (encH []) b (encL l) [] false) :=
 BlkEqv.boxOf (.cons CEq.rfl' (.cons CEq.nil (.cons CEq.rfl' (.cons CEq.rfl' (.cons CEq.rfl' (.cons CEq.rfl' .nil)))))) kR
theorem rdz_eqv0:BlkEqv rdZ (rdB [] (encH []) [] (encL []) [] false) :=
 BlkEqv.boxOf (.cons CEq.rfl' (.cons CEq.nil (.cons CEq.rfl' (.cons CEq.nil (.cons CEq.rfl' (.cons CEq.rfl' .nil)))))) kR
theorem rcut_big (hL:HasLen G) (s:List UInt8) (hl:s.length<1000000000) (h:bigH s=true):FnB Tryz.prog G 103 [rdZ] [.c (.ptr 0 0),.c (.str s)] [.c (.int .i64 4)] [(0,rdB [] (encH []) [] (encL []) [] false)]:=by
 refine zf Tryz.func103 ?_
 obtain ⟨mx,hG⟩:=hL
 have c1:Pur Tryz.prog G 56 [.c (.str s),.c (.str [13,10,13,10])] [.c (.str (hdC s).1),.c (.str (hdC s).2.1),.c (.bool (hdC s).2.2)]:=lib_Cut hG s [13,10,13,10] oM
 have hc:(hdC s).1.length≤s.length:=(cut_len s [13,10,13,10]).1
 unfold bigH at h
 generalize hdC s=C at c1 h hc
 cases hi:C.2.2 with
 | true =>
  rw [hi] at c1 h
  have ht:(bif true then decide ((C.1.length:Int)+4>2048) else false)=true:=h
  have hr:true=true→inR IntKind.i64 ((C.1.length:Int)+4):=fun _=>i6
  refine zg [(1,{cs:=[(1,pc c1)]})] [true,true] [true=true→inR .i64 ((C.1.length:Int)+(4:Int)),(bif true then decide ((C.1.length:Int)+(4:Int)>(2048:Int)) else false)=true,(bif true then decide ((C.1.length:Int)+(4:Int)>(2048:Int)) else false)=true] ⟨aS,aS,(show (bif true then decide ((↑C.1.length:Int)+(4:Int)>(2048:Int)) else false)=true from aS)⟩ ?_
  refine Wp.ent' kR (Ent.blkE (id:=0) (b:=rdZ) (b':=rdB [] (encH []) [] (encL []) [] false) kR rdz_eqv0 rfl) ?_
  exact zb []
 | false =>
  rw [hi] at c1 h
  have ht:(bif !false then decide ((s.length:Int)>2048) else false)=true:=h
  refine zg [(1,{cs:=[(1,pc c1)]})] [false,true] [false=true→inR .i64 ((C.1.length:Int)+(4:Int)),(bif false then decide ((C.1.length:Int)+(4:Int)>(2048:Int)) else false)=false,(bif !false then decide ((s.length:Int)>(2048:Int)) else false)=true] ⟨(by simp;done),rfl,(show (bif !false then decide ((↑s.length:Int)>(2048:Int)) else false)=true from aS)⟩ ?_
  refine Wp.ent' kR (Ent.blkE (id:=0) (b:=rdZ) (b':=rdB [] (encH []) [] (encL []) [] false) kR rdz_eqv0 rfl) ?_
  exact zb []
theorem rcut_form (hL:HasLen G) (s:List UInt8) (hl:s.length<1000000000) (h:bigH s=false) (hi:(hdC s).2.2=false):FnB Tryz.prog G 103 [rdZ] [.c (.ptr 0 0),.c (.str s)] [.c (.int .i64 3)] [(0,rdB [] (encH []) [] (encL []) [] false)]:=by
 refine zf Tryz.func103 ?_
 obtain ⟨mx,hG⟩:=hL
 have c1:Pur Tryz.prog G 56 [.c (.str s),.c (.str [13,10,13,10])] [.c (.str (hdC s).1),.c (.str (hdC s).2.1),.c (.bool (hdC s).2.2)]:=lib_Cut hG s [13,10,13,10] oM
 unfold bigH at h
 generalize hdC s=C at c1 h hi
 rw [hi] at c1 h
 have ht:(bif !false then decide ((s.length:Int)>2048) else false)=false:=h
 refine zg [(1,{cs:=[(1,pc c1)]})] [false,false,true] [false=true→inR .i64 ((C.1.length:Int)+(4:Int)),(bif false then decide ((C.1.length:Int)+(4:Int)>(2048:Int)) else false)=false,(bif !false then decide ((s.length:Int)>(2048:Int)) else false)=false,(!false)=true] ⟨(by simp;done),rfl,aS,rfl⟩ ?_
 refine Wp.ent' kR (Ent.blkE (id:=0) (b:=rdZ) (b':=rdB [] (encH []) [] (encL []) [] false) kR rdz_eqv0 rfl) ?_
 exact zb []
theorem rcut_many (hL:HasLen G) (s:List UInt8) (hl:s.length<1000000000) (h:bigH s=false) (hi:(hdC s).2.2=true) (hm:(linesH s).length>25):FnB Tryz.prog G 103 [rdZ] [.c (.ptr 0 0),.c (.str s)] [.c (.int .i64 4)] [(0,rdB [] (encH []) (hdC s).2.1 (encL (linesH s)) [] false)]:=by
 refine zf Tryz.func103 ?_
 obtain ⟨mx,hG⟩:=hL
 have c1:Pur Tryz.prog G 56 [.c (.str s),.c (.str [13,10,13,10])] [.c (.str (hdC s).1),.c (.str (hdC s).2.1),.c (.bool (hdC s).2.2)]:=lib_Cut hG s [13,10,13,10] oM
 have hc:(hdC s).1.length≤s.length:=(cut_len s [13,10,13,10]).1
 have c2:Pur Tryz.prog G 145 [.c (.str (hdC s).1),.c (.str [13,10])] [.c (.sl 1 (linesH s).length (strsF (linesH s)))]:=lib_Split hG (hdC s).1 [13,10] oM dC
 unfold bigH at h
 generalize linesH s=L at c2 hm ⊢
 generalize hdC s=C at c1 c2 h hi hc ⊢
 rw [hi] at c1 h
 have ht:(bif true then decide ((C.1.length:Int)+4>2048) else false)=false:=h
 have hr:true=true→inR IntKind.i64 ((C.1.length:Int)+4):=fun _=>i6
 have ht2:(bif !true then decide ((s.length:Int)>2048) else false)=false:=rfl
 have ht3:decide ((L.length:Int)>25)=true:=by simp;omega
 refine zg [(1,{cs:=[(1,pc c1)]}),(7,{cs:=[(3,pc c2)]})] [false,false,false,true] [true=true→inR .i64 ((C.1.length:Int)+(4:Int)),(bif true then decide ((C.1.length:Int)+(4:Int)>(2048:Int)) else false)=false,(bif !true then decide ((s.length:Int)>(2048:Int)) else false)=false,(!true)=false,decide ((L.length:Int)>25)=true] ⟨aS,aS,rfl,rfl,(show decide ((↑L.length:Int)>(25:Int))=true from aS)⟩ ?_
 refine Wp.ent' kR (Ent.blkE (id:=0) (b:=rdB [] .nilsl C.2.1 (encL L) [] false) (b':=rdB [] (encH []) C.2.1 (encL L) [] false) kR (rdz_eqv _ _ _) rfl) ?_
 exact zb []
theorem drop1_eqv (L:List (List UInt8)) (n:Nat) (hn:n=L.length-1):EqvD (.c (.sl 1 n (fun i j=>strsF L (1+i) j))) (.c (encL (L.drop 1))):=by
 refine EqvD.sl (by rw [hn,List.length_drop]) fun i hi j hj => ?_
 unfold strsF
 rw [List.getD_eq_getElem?_getD,List.getD_eq_getElem?_getD,List.getElem?_drop]
theorem rcut_yes (hL:HasLen G) (s:List UInt8) (hl:s.length<1000000000) (h:bigH s=false) (hi:(hdC s).2.2=true) (hm:(linesH s).length≤25):FnB Tryz.prog G 103 [rdZ] [.c (.ptr 0 0),.c (.str s)] [.c (.int .i64 0)] [(0,rdB (firstH s) .nilsl (hdC s).2.1 (encL (fieldsL s)) [] false)]:=by
 refine zf Tryz.func103 ?_
 obtain ⟨mx,hG⟩:=hL
 have c1:Pur Tryz.prog G 56 [.c (.str s),.c (.str [13,10,13,10])] [.c (.str (hdC s).1),.c (.str (hdC s).2.1),.c (.bool (hdC s).2.2)]:=lib_Cut hG s [13,10,13,10] oM
 have hc:(hdC s).1.length≤s.length:=(cut_len s [13,10,13,10]).1
 have c2:Pur Tryz.prog G 145 [.c (.str (hdC s).1),.c (.str [13,10])] [.c (.sl 1 (linesH s).length (strsF (linesH s)))]:=lib_Split hG (hdC s).1 [13,10] oM dC
 have hpos:1≤(linesH s).length:=by
  unfold linesH Lib.split
  exact List.length_pos_iff.2 (splitK_nil _ _ _)
 unfold bigH at h
 unfold firstH fieldsL
 generalize linesH s=L at c2 hm hpos ⊢
 generalize hdC s=C at c1 c2 h hi hc ⊢
 rw [hi] at c1 h
 have ht:(bif true then decide ((C.1.length:Int)+4>2048) else false)=false:=h
 have hr:true=true→inR IntKind.i64 ((C.1.length:Int)+4):=fun _=>i6
 have ht2:(bif !true then decide ((s.length:Int)>2048) else false)=false:=rfl
 have ht3:decide ((L.length:Int)>25)=false:=by simp;omega
 have e1:=drop1_eqv L (L.length-1) rfl
 refine zg [(10,{fm:=[(12,.c (encL (L.drop 1)))]}),(1,{cs:=[(1,pc c1)]}),(7,{cs:=[(3,pc c2)]})] [false,false,false,false] [true=true→inR .i64 ((C.1.length:Int)+(4:Int)),(bif true then decide ((C.1.length:Int)+(4:Int)>(2048:Int)) else false)=false,(bif !true then decide ((s.length:Int)>(2048:Int)) else false)=false,(!true)=false,decide ((L.length:Int)>25)=false,(0:Int)≤(0:Int)∧(0:Int)<(L.length:Int),EqvI (.c (.sl 1 ((Int.ofNat L.length).toNat-(1:Nat)) fun i j=>strsF L ((1:Nat)+i) j)) (.c (encL (List.drop (1:Nat) L))),EqvD (.c (.sl 1 ((Int.ofNat L.length).toNat-(1:Nat)) fun i j=>strsF L ((1:Nat)+i) j)) (.c (encL (List.drop (1:Nat) L))),(0:Int)≤Int.ofNat (1)∧Int.ofNat (1)≤Int.ofNat L.length∧Int.ofNat L.length≤(L.length:Int)] ⟨aS,aS,rfl,rfl,aS,oM,fun _ _=>trivial,aS,⟨dC,⟨sO,(by simp;done)⟩⟩⟩ ?_
 exact zb []
theorem rsized_ok (f b z:List UInt8) (d:Bool) (hd:List FT) (l:List (List UInt8)) (hb:b.length<1000000000) (hz:z.length<1000000000):FnB Tryz.prog G 105 [rdB f (encH hd) b (encL l) z d] [.c (.ptr 0 0)] [.c (.int .i64 (szE z d b))] [(0,rdB f (encH hd) b (encL l) z d)]:=by
 refine zf Tryz.func105 ?_
 unfold szE
 cases d with
 | false =>
  rw [if_neg dC]
  by_cases hbe:b=[]
  ·rw [if_pos hbe]
   have ht:((0:Int) != (b.length:Int))=false:=by rw [hbe];rfl
   refine zg [] [false,false,false,false] [false=false,(!true)=false,decide ((0:Int)>(4096:Int))=false,((0:Int) != (b.length:Int))=false] ⟨rfl,rfl,rfl,(show ((0:Int) != (↑b.length:Int))=false from aS)⟩ ?_
   exact zb []
  ·rw [if_neg hbe]
   have ht:((0:Int) != (b.length:Int))=true:=by
    have:b.length≠0:=fun h=>hbe (List.length_eq_zero_iff.1 h)
    simp;omega
   refine zg [] [false,false,false,true] [false=false,(!true)=false,decide ((0:Int)>(4096:Int))=false,((0:Int) != (b.length:Int))=true] ⟨rfl,rfl,rfl,(show ((0:Int) != (↑b.length:Int))=true from aS)⟩ ?_
   exact zb []
 | true =>
  rw [if_pos rfl]
  cases hn:numK 9 z with
  | false =>
   rw [if_pos rfl]
   have c:=numK_no (G:=G) (K:=9) z hz hn
   refine zg [(3,{cs:=[(4,pc c)]})] [true,true] [true=true,(!false)=true] ⟨rfl,rfl⟩ ?_
   exact zb []
  | true =>
   rw [if_neg dC]
   have c:=numK_yes (G:=G) (K:=9) dC z hn
   generalize nv z=N at c ⊢
   by_cases h4:N>4096
   ·rw [if_pos h4]
    have ht:decide ((N:Int)>4096)=true:=by simp;omega
    refine zg [(3,{cs:=[(4,pc c)]})] [true,false,true] [true=true,(!true)=false,decide ((N:Int)>4096)=true] ⟨rfl,rfl,(show decide ((↑N:Int)>(4096:Int))=true from aS)⟩ ?_
    exact zb []
   ·rw [if_neg h4]
    have ht:decide ((N:Int)>4096)=false:=by simp;omega
    by_cases h5:N=b.length
    ·rw [if_pos h5]
     have ht2:((N:Int) != (b.length:Int))=false:=by simp;omega
     refine zg [(3,{cs:=[(4,pc c)]})] [true,false,false,false] [true=true,(!true)=false,decide ((N:Int)>4096)=false,((N:Int) != (b.length:Int))=false] ⟨rfl,rfl,aS,(show ((↑N:Int) != (↑b.length:Int))=false from aS)⟩ ?_
     exact zb []
    ·rw [if_neg h5]
     have ht2:((N:Int) != (b.length:Int))=true:=by simp;omega
     refine zg [(3,{cs:=[(4,pc c)]})] [true,false,false,true] [true=true,(!true)=false,decide ((N:Int)>4096)=false,((N:Int) != (b.length:Int))=true] ⟨rfl,rfl,aS,(show ((↑N:Int) != (↑b.length:Int))=true from aS)⟩ ?_
     exact zb []
theorem fGet_con (l:List FT) (n:List UInt8):(l.map (·.name)).contains n=(fGet l n).isSome:=by
 induction l with
 | nil=>rfl
 | cons x l ih =>
  rw [fGet_cons,List.map_cons,List.contains_cons,ih]
  cases h:(x.name==n) with
  | true=>rw [show (n==x.name)=true from by rw [eq_of_beq h]; simp]; rfl
  | false=>rw [show (n==x.name)=false from by rw [beq_eq_false_iff_ne] at h ⊢; exact fun e=>h e.symm]; rfl
theorem fGet_snoc (l:List FT) (x:FT) (n:List UInt8):fGet (l++[x]) n=match fGet l n with
  | some v=>some v
  | none=>if x.name==n then some x.value else none:=by
 induction l with
 | nil=>rw [List.nil_append,fGet_cons,fGet_nil]
 | cons y l ih =>
  rw [List.cons_append,fGet_cons,fGet_cons,ih]
  split<;>rfl
theorem filt_cl (acc:List FT) (x:FT) (h:(x.name==clN)=true):(acc++[x]).filter notCl=acc.filter notCl:=by
 rw [List.filter_append];simp [notCl,h]
theorem filt_no (acc:List FT) (x:FT) (h:(x.name==clN)=false):(acc++[x]).filter notCl=acc.filter notCl++[x]:=by
 rw [List.filter_append];simp [notCl,h]
theorem snoc_cl (acc:List FT) (x:FT) (h:(x.name==clN)=true) (hn:fGet acc clN=none):fGet (acc++[x]) clN=some x.value:=by
 rw [fGet_snoc,hn];simp only [h];rfl
theorem snoc_no (acc:List FT) (x:FT) (h:(x.name==clN)=false):fGet (acc++[x]) clN=fGet acc clN:=by
 rw [fGet_snoc];cases fGet acc clN<;>simp [h]
theorem fA_step (l:List (List UInt8)) (acc:List FT) (k:Nat) (hk:k<l.length):fieldsA (l.drop k) acc=if okA acc (l.getD k []) then fieldsA (l.drop (k+1)) (acc++[lineF (l.getD k [])]) else acc:=by
 rw [dropM l [] k hk,fieldsA]
theorem fO_step (l:List (List UInt8)) (acc:List FT) (k:Nat) (hk:k<l.length):fieldsO (l.drop k) acc=if okA acc (l.getD k []) then fieldsO (l.drop (k+1)) (acc++[lineF (l.getD k [])]) else false:=by
 rw [dropM l [] k hk,fieldsO]
theorem okA_b (c t s h:Bool):(bif bif bif !c then true else !t then true else !s then true else h) = !((c&&(t&&s)) && !h):=by
 cases c<;>cases t<;>cases s<;>cases h<;>rfl
theorem rfields_ok (hL:HasLen G) (f b:List UInt8) (l:List (List UInt8)) (hl:∀ k,(l.getD k []).length<1000000000) (hn:l.length<1000000):FnB Tryz.prog G 104 [rdB f .nilsl b (encL l) [] false] [.c (.ptr 0 0)] [.c (.int .i64 (if fieldsO l [] then 0 else 3))]
  [(0,rdB f (encH ((fieldsA l []).filter notCl)) b (encL l) ((fGet (fieldsA l []) clN).getD []) (fGet (fieldsA l []) clN).isSome)]:=by
 refine zf Tryz.func104 ?_
 obtain ⟨mx,hG⟩:=hL
 refine z0 [] [] ?_
 refine Wp.loopK kR (fun (x:Nat×Nat×List FT×List FT×List UInt8×Bool)=>⟨[(0,TV.v (V1.c (Cell.ptr 0 0))),(3,TV.v (V1.c (Cell.map 17))),(14,TV.v (V1.c (Cell.sl 1 l.length (strsF l)))),(15,TV.v (V1.c (Cell.int .i64 (l.length:Int)))),(16,TV.v (V1.c (Cell.int .i64 (x.1:Int))))],[(0,Blk.box 103 [.str f,.row 2 145 0 x.2.1,.str b,encL l,.str x.2.2.2.2.1,.bool x.2.2.2.2.2]),(17,Blk.ob (Ob.ms (seenL (x.2.2.1.map (·.name))))),(145,Blk.row 55 2 x.2.1 (rowF encF .nil x.2.2.2.1))],161⟩)
  (fun x=>x.1≤l.length∧x.2.1=x.2.2.2.1.length∧x.2.1≤x.1∧fieldsA l []=fieldsA (l.drop x.1) x.2.2.1∧fieldsO l []=fieldsO (l.drop x.1) x.2.2.1∧x.2.2.2.1=x.2.2.1.filter notCl∧x.2.2.2.2.1=(fGet x.2.2.1 clN).getD []∧x.2.2.2.2.2=(fGet x.2.2.1 clN).isSome) (fun x=>l.length-x.1) (0,0,[],[],[],false)
  (Ent.trans (Ent.empC (b:=0) (o:=1) (sz:=2) (e:=55) (e':=103) (cs:=[.str f,.nilsl,.str b,encL l,.str [],.bool false]) (f:=rowF encF .nil []) dC (of_decide_eq_true kR) kR kR rfl) (Ent.of [] kR kR kR trivial)) ⟨Nat.zero_le _,rfl,Nat.le_refl _,rfl,rfl,rfl,rfl,rfl⟩ ?_
 rintro ⟨k,n,acc,H,z,d⟩ L ⟨hk,hnH,hnk,hA,hO,hH,hz,hd⟩ again
 simp only at hk hnH hnk hA hO hH hz hd
 rcases Nat.lt_or_ge k l.length with hlt | hge
 ·rw [fA_step l acc k hlt] at hA
  rw [fO_step l acc k hlt] at hO
  have hp:=hl k
  have hcl:=cut_len (l.getD k []) [58,32]
  have c1:=lib_Cut (G:=G) hG (l.getD k []) [58,32] oM
  have c2:=fold_ok (G:=G) (Lib.cut (l.getD k []) [58,32]).1 oM
  have c3:=token_ok (G:=G) (Lib.cut (l.getD k []) [58,32]).1 oM
  have c4:=seen_ok (G:=G) (Lib.cut (l.getD k []) [58,32]).2.1 oM
  have e0:EqvD (mget (seenL (acc.map (·.name))) (foldT (Lib.cut (l.getD k []) [58,32]).1) (.c (.bool false))) (.c (.bool ((acc.map (·.name)).contains (lineF (l.getD k [])).name))):=eqvD_of (seenL_get _ _)
  have ht:=okA_b (Lib.cut (l.getD k []) [58,32]).2.2 (tokenT (Lib.cut (l.getD k []) [58,32]).1) ((Lib.cut (l.getD k []) [58,32]).2.1.all seenB) ((acc.map (·.name)).contains (lineF (l.getD k [])).name)
  rw [show (((Lib.cut (l.getD k []) [58,32]).2.2&&(tokenT (Lib.cut (l.getD k []) [58,32]).1&&(Lib.cut (l.getD k []) [58,32]).2.1.all seenB)) && !((acc.map (·.name)).contains (lineF (l.getD k [])).name))=okA acc (l.getD k []) from by rw [fGet_con];rfl] at ht
  cases hok:okA acc (l.getD k []) with
  | false =>
   rw [hok,if_neg dC] at hA hO
   rw [hA,hO,← hH,← hz,← hd]
   rw [hok] at ht
   have ht:(bif bif bif !(Lib.cut (l.getD k []) [58,32]).2.2 then true else !tokenT (Lib.cut (l.getD k []) [58,32]).1 then true else !(Lib.cut (l.getD k []) [58,32]).2.1.all seenB then true else (acc.map (·.name)).contains (lineF (l.getD k [])).name)=true:=ht
   clear hA hO hok hH hz hd
   refine Wp.ent' kR (Ent.pubC (id:=145) (b:=0) (o:=1) (off:=0) (m:=n) (sz:=2) (n:=n) (e:=55) (e':=103) (cs:=[.str f,.row 2 145 0 n,.str b,encL l,.str z,.bool d]) (f:=rowF encF .nil H) (m':=H.length) (f':=fun i j=>nthD (encF (H.getD i .nil)) j) kR kR kR oM hnH (fun i _ j hj=>by rw [Nat.zero_add];rfl) rfl) ?_
   refine zg [(7,{cs:=[(4,pc c3),(9,pc c4)],fm:=[(15,.c (.bool ((acc.map (·.name)).contains (lineF (l.getD k [])).name)))]}),(5,{cs:=[(1,pc c1)]}),(6,{cs:=[(1,pc c2)]})] [true,true] [decide ((k:Int)<(l.length:Int))=true,(0:Int)≤(k:Int)∧(k:Int)<(l.length:Int),EqvI (mget (seenL (List.map (fun (x:FT)=>x.name) acc)) (foldT (Lib.cut (l.getD k []) [(58:UInt8),32]).1) (.c (.bool false))) (.c (.bool ((List.map (fun (x:FT)=>x.name) acc).contains (lineF (l.getD k [])).name))),(bif bif !(Lib.cut (l.getD k []) [(58:UInt8),32]).2.snd then true else !tokenT (Lib.cut (l.getD k []) [(58:UInt8),32]).1 then true else !(Lib.cut (l.getD k []) [(58:UInt8),32]).2.fst.all seenB)=false→EqvD (mget (seenL (List.map (fun (x:FT)=>x.name) acc)) (foldT (Lib.cut (l.getD k []) [(58:UInt8),32]).1) (.c (.bool false))) (.c (.bool ((List.map (fun (x:FT)=>x.name) acc).contains (lineF (l.getD k [])).name))),(bif bif bif !(Lib.cut (l.getD k []) [(58:UInt8),32]).2.snd then true else !tokenT (Lib.cut (l.getD k []) [(58:UInt8),32]).1 then true else !(Lib.cut (l.getD k []) [(58:UInt8),32]).2.fst.all seenB then true else (List.map (fun (x:FT)=>x.name) acc).contains (lineF (l.getD k [])).name)=true] ⟨sO,oM,fun _ _=>trivial,(by intro _;assumption),(show (bif bif bif !(Lib.cut (l.getD k []) [(58:UInt8),32]).2.snd then true else !tokenT (Lib.cut (l.getD k []) [(58:UInt8),32]).1 then true else !(Lib.cut (l.getD k []) [(58:UInt8),32]).2.fst.all seenB then true else (List.map (fun (x:FT)=>x.name) acc).contains (lineF (l.getD k [])).name)=true from aS)⟩ ?_
   exact zb []
  | true =>
   rw [hok,if_pos rfl] at hA hO
   rw [hok] at ht
   have ht:(bif bif bif !(Lib.cut (l.getD k []) [58,32]).2.2 then true else !tokenT (Lib.cut (l.getD k []) [58,32]).1 then true else !(Lib.cut (l.getD k []) [58,32]).2.1.all seenB then true else (acc.map (·.name)).contains (lineF (l.getD k [])).name)=false:=ht
   have hno:(fGet acc (lineF (l.getD k [])).name)=none:=by
    unfold okA at hok
    cases hg:fGet acc (lineF (l.getD k [])).name with
    | none=>rfl
    | some v=>rw [hg] at hok; simp at hok
   have hc:(acc.map (·.name)).contains (lineF (l.getD k [])).name=false:=by rw [fGet_con,hno];rfl
   have e2:BlkEqv (.ob (.ms (mset (seenL (acc.map (·.name))) (lineF (l.getD k [])).name (.c (.bool true))))) (.ob (.ms (seenL ((acc++[lineF (l.getD k [])]).map (·.name))))):=BlkEqv.of_eq (by rw [seenL_set _ _ hc,List.map_append];rfl)
   cases hcl2:((lineF (l.getD k [])).name==clN) with
   | true =>
    have hcl3:(foldT (Lib.cut (l.getD k []) [58,32]).1==clN)=true:=hcl2
    have hnone:fGet acc clN=none:=by rw [← eq_of_beq hcl2];exact hno
    have f1:H=(acc++[lineF (l.getD k [])]).filter notCl:=by rw [filt_cl _ _ hcl2,← hH]
    have f2:(Lib.cut (l.getD k []) [58,32]).2.1=(fGet (acc++[lineF (l.getD k [])]) clN).getD []:=by rw [snoc_cl _ _ hcl2 hnone];rfl
    have f3:true=(fGet (acc++[lineF (l.getD k [])]) clN).isSome:=by rw [snoc_cl _ _ hcl2 hnone];rfl
    clear hok hno hc hnone hcl2 hH hz hd
    refine zg [(7,{cs:=[(4,pc c3),(9,pc c4)],fm:=[(15,.c (.bool ((acc.map (·.name)).contains (lineF (l.getD k [])).name)))]}),(9,{bs:=[(2,.ob (.ms (seenL ((acc++[lineF (l.getD k [])]).map (·.name)))))]}),(5,{cs:=[(1,pc c1)]}),(6,{cs:=[(1,pc c2)]})] [true,false,true] [decide ((k:Int)<(l.length:Int))=true,(0:Int)≤(k:Int)∧(k:Int)<(l.length:Int),EqvI (mget (seenL (List.map (fun (x:FT)=>x.name) acc)) (foldT (Lib.cut (l.getD k []) [(58:UInt8),32]).1) (.c (.bool false))) (.c (.bool ((List.map (fun (x:FT)=>x.name) acc).contains (lineF (l.getD k [])).name))),(bif bif !(Lib.cut (l.getD k []) [(58:UInt8),32]).2.snd then true else !tokenT (Lib.cut (l.getD k []) [(58:UInt8),32]).1 then true else !(Lib.cut (l.getD k []) [(58:UInt8),32]).2.fst.all seenB)=false→EqvD (mget (seenL (List.map (fun (x:FT)=>x.name) acc)) (foldT (Lib.cut (l.getD k []) [(58:UInt8),32]).1) (.c (.bool false))) (.c (.bool ((List.map (fun (x:FT)=>x.name) acc).contains (lineF (l.getD k [])).name))),(bif bif bif !(Lib.cut (l.getD k []) [(58:UInt8),32]).2.snd then true else !tokenT (Lib.cut (l.getD k []) [(58:UInt8),32]).1 then true else !(Lib.cut (l.getD k []) [(58:UInt8),32]).2.fst.all seenB then true else (List.map (fun (x:FT)=>x.name) acc).contains (lineF (l.getD k [])).name)=false,BlkEqv (.ob (Ob.ms (mset (seenL (List.map (fun (x:FT)=>x.name) acc)) (foldT (Lib.cut (l.getD k []) [(58:UInt8),32]).1) (.c (.bool true))))) (.ob (Ob.ms (seenL (List.map (fun (x:FT)=>x.name) (acc++[lineF (l.getD k [])]))))),(foldT (Lib.cut (l.getD k []) [(58:UInt8),32]).1==[(99:UInt8),111,110,116,101,110,116,45,108,101,110,103,116,104])=true,inR .i64 ((k:Int)+1)] ⟨sO,oM,fun _ _=>trivial,(by intro _;assumption),aS,aS,aS,i6⟩ ?_
    exact za [] (again _ (k+1,n,acc++[lineF (l.getD k [])],H,(Lib.cut (l.getD k []) [58,32]).2.1,true) ⟨aS,⟨aS,⟨sO,⟨aS,⟨aS,⟨aS,⟨aS,aS⟩⟩⟩⟩⟩⟩⟩ oM)
   | false =>
    have hcl3:(foldT (Lib.cut (l.getD k []) [58,32]).1==clN)=false:=hcl2
    have f1:H++[lineF (l.getD k [])]=(acc++[lineF (l.getD k [])]).filter notCl:=by rw [filt_no _ _ hcl2,← hH]
    have f2:z=(fGet (acc++[lineF (l.getD k [])]) clN).getD []:=by rw [snoc_no _ _ hcl2];exact hz
    have f3:d=(fGet (acc++[lineF (l.getD k [])]) clN).isSome:=by rw [snoc_no _ _ hcl2];exact hd
    have e3:BlkEqv (.row 55 2 (n+1) (catF n (rowF encF .nil H) (fun i j=>nthD (encF (lineF (l.getD k []))) ((0+i)*2+j)))) (.row 55 2 (n+1) (rowF encF .nil (H++[lineF (l.getD k [])]))):=enc_app H _ hnH
    have q2:n+1=(H++[lineF (l.getD k [])]).length:=by simp [hnH]
    clear hok hno hc hcl2 hH hz hd
    refine zg [(7,{cs:=[(4,pc c3),(9,pc c4)],fm:=[(15,.c (.bool ((acc.map (·.name)).contains (lineF (l.getD k [])).name)))]}),(9,{bs:=[(2,.ob (.ms (seenL ((acc++[lineF (l.getD k [])]).map (·.name)))))]}),(12,{bs:=[(10,.row 55 2 (n+1) (rowF encF .nil (H++[lineF (l.getD k [])])))]}),(5,{cs:=[(1,pc c1)]}),(6,{cs:=[(1,pc c2)]})] [true,false,false] [decide ((k:Int)<(l.length:Int))=true,(0:Int)≤(k:Int)∧(k:Int)<(l.length:Int),EqvI (mget (seenL (List.map (fun (x:FT)=>x.name) acc)) (foldT (Lib.cut (l.getD k []) [(58:UInt8),32]).1) (.c (.bool false))) (.c (.bool ((List.map (fun (x:FT)=>x.name) acc).contains (lineF (l.getD k [])).name))),(bif bif !(Lib.cut (l.getD k []) [(58:UInt8),32]).2.snd then true else !tokenT (Lib.cut (l.getD k []) [(58:UInt8),32]).1 then true else !(Lib.cut (l.getD k []) [(58:UInt8),32]).2.fst.all seenB)=false→EqvD (mget (seenL (List.map (fun (x:FT)=>x.name) acc)) (foldT (Lib.cut (l.getD k []) [(58:UInt8),32]).1) (.c (.bool false))) (.c (.bool ((List.map (fun (x:FT)=>x.name) acc).contains (lineF (l.getD k [])).name))),(bif bif bif !(Lib.cut (l.getD k []) [(58:UInt8),32]).2.snd then true else !tokenT (Lib.cut (l.getD k []) [(58:UInt8),32]).1 then true else !(Lib.cut (l.getD k []) [(58:UInt8),32]).2.fst.all seenB then true else (List.map (fun (x:FT)=>x.name) acc).contains (lineF (l.getD k [])).name)=false,BlkEqv (.ob (Ob.ms (mset (seenL (List.map (fun (x:FT)=>x.name) acc)) (foldT (Lib.cut (l.getD k []) [(58:UInt8),32]).1) (.c (.bool true))))) (.ob (Ob.ms (seenL (List.map (fun (x:FT)=>x.name) (acc++[lineF (l.getD k [])]))))),(foldT (Lib.cut (l.getD k []) [(58:UInt8),32]).1==[(99:UInt8),111,110,116,101,110,116,45,108,101,110,103,116,104])=false,(n+1)*32≤140737488355328,BlkEqv (.row 55 (2:Nat) (n+(1:Nat)) (catF n (fun i j=>nthD [.str (H.getD i .nil).name,.str (H.getD i .nil).value] j) fun i j=>nthD [.str (foldT (Lib.cut (l.getD k []) [(58:UInt8),32]).1),.str (Lib.cut (l.getD k []) [(58:UInt8),32]).2.fst] (((0:Nat)+i)*(2:Nat)+j))) (.row 55 (2:Nat) (n+(1:Nat)) (rowF encF FT.nil (H++[lineF (l.getD k [])]))),n≤n,0+1≤1,inR .i64 ((k:Int)+1)] ⟨sO,oM,fun _ _=>trivial,(by intro _;assumption),aS,aS,aS,oM,aS,oM,oM,i6⟩ ?_
    exact za [(145,929)] (again _ (k+1,n+1,acc++[lineF (l.getD k [])],H++[lineF (l.getD k [])],z,d) ⟨aS,⟨aS,⟨sO,⟨aS,⟨aS,⟨aS,⟨aS,aS⟩⟩⟩⟩⟩⟩⟩ oM)
 ·rw [List.drop_of_length_le hge] at hA hO
  rw [hA,hO,fieldsA,fieldsO,← hH,← hz,← hd]
  clear hA hO hH hz hd
  refine Wp.ent' kR (Ent.pubC (id:=145) (b:=0) (o:=1) (off:=0) (m:=n) (sz:=2) (n:=n) (e:=55) (e':=103) (cs:=[.str f,.row 2 145 0 n,.str b,encL l,.str z,.bool d]) (f:=rowF encF .nil H) (m':=H.length) (f':=fun i j=>nthD (encF (H.getD i .nil)) j) kR kR kR oM hnH (fun i _ j hj=>by rw [Nat.zero_add];rfl) rfl) ?_
  refine zg [] [false] [decide ((k:Int)<(l.length:Int))=false] (oN sO) ?_
  exact zb []
theorem readH_no1 {line:List UInt8→Bool} {s:List UInt8} (h:bigH s=true):readH line s=([],4):=by
 unfold readH splitH;rw [h];rfl
theorem readH_no2 {line:List UInt8→Bool} {s:List UInt8} (h:bigH s=false) (hi:(hdC s).2.2=false):readH line s=([],3):=by
 unfold readH splitH;rw [h,hi];rfl
theorem readH_no3 {line:List UInt8→Bool} {s:List UInt8} (h:bigH s=false) (hi:(hdC s).2.2=true) (hm:(linesH s).length>25):readH line s=([],4):=by
 unfold readH splitH;rw [h,hi,if_pos hm];rfl
theorem splitH_yes {s:List UInt8} (h:bigH s=false) (hi:(hdC s).2.2=true) (hm:¬ (linesH s).length>25):splitH s=0:=by
 unfold splitH;rw [h,hi,if_neg hm];rfl
theorem readH_line {line:List UInt8→Bool} {s:List UInt8} (h:splitH s=0) (hf:line (firstH s)=false):readH line s=([],3):=by
 unfold readH;rw [h,hf];rfl
theorem readH_flds {line:List UInt8→Bool} {s:List UInt8} (h:splitH s=0) (hf:line (firstH s)=true) (hO:fieldsO (fieldsL s) []=false):readH line s=([],3):=by
 unfold readH;rw [h,hf,hO];rfl
theorem readH_end {line:List UInt8→Bool} {s:List UInt8} (h:splitH s=0) (hf:line (firstH s)=true) (hO:fieldsO (fieldsL s) []=true):readH line s=if bodyE (fieldsA (fieldsL s) []) (hdC s).2.1=0 then ((fieldsA (fieldsL s) []).filter notCl,0) else ([],bodyE (fieldsA (fieldsL s) []) (hdC s).2.1):=by
 unfold readH;rw [h,hf,hO];rfl
theorem fA_sm {B:Nat}:∀ (l:List (List UInt8)) (acc:List FT),(∀ p∈l,p.length≤B)→(∀ f∈acc,f.name.length≤B∧f.value.length≤B)→∀ f∈fieldsA l acc,f.name.length≤B∧f.value.length≤B
 | [],acc,_,h=>by simpa [fieldsA] using h
 | p::r,acc,hl,h=>by
  unfold fieldsA
  split
  ·refine fA_sm r _ (fun q hq=>hl q (by simp [hq])) (fun f hf => ?_)
   rcases List.mem_append.1 hf with hf | hf
   ·exact h f hf
   ·rw [List.mem_singleton.1 hf]
    have:=cut_len p [58,32]
    have hp:=hl p (by simp)
    exact ⟨by show (foldT _).length≤_;unfold foldT;rw [List.length_map];omega,by show (Lib.cut p [58,32]).2.1.length≤_;omega⟩
  ·exact h
theorem fGet_mem {l:List FT} {n v:List UInt8} (h:fGet l n=some v):∃ f∈l,f.name=n∧f.value=v:=by
 unfold fGet at h
 cases hf:l.find? (fun f=>f.name==n) with
 | none=>rw [hf] at h; cases h
 | some f =>
  rw [hf] at h
  have h1:=List.find?_some hf
  exact ⟨f,List.mem_of_find?_eq_some hf,eq_of_beq h1,by simpa using h⟩
theorem fldsL_sm (s:List UInt8):∀ p∈fieldsL s,p.length≤s.length:=by
 intro p hp
 have h1:=splitK_len [13,10] _ (hdC s).1 p (List.mem_of_mem_drop hp)
 have h2:(hdC s).1.length≤s.length:=(cut_len s [13,10,13,10]).1
 omega
theorem first_sm (s:List UInt8):(firstH s).length≤s.length:=by
 have h1:(firstH s).length≤(hdC s).1.length:=split_el (hdC s).1 [13,10] 0
 have h2:(hdC s).1.length≤s.length:=(cut_len s [13,10,13,10]).1
 omega
theorem cl_sm (s:List UInt8):((fGet (fieldsA (fieldsL s) []) clN).getD []).length≤s.length:=by
 cases h:fGet (fieldsA (fieldsL s) []) clN with
 | none=>simp
 | some v =>
  obtain ⟨f,hf,_,rfl⟩:=fGet_mem h
  exact (fA_sm (B:=s.length) _ [] (fldsL_sm s) (fun f hf=>by cases hf) f hf).2
theorem readsR_no (hL:HasLen G) (s:List UInt8) (hl:s.length<1000000000) (h:(readH tellB s).2≠0):∃ (f b z:List UInt8) (hd:List FT) (l:List (List UInt8)) (d:Bool),FnB Tryz.prog G 53 [.box 39 [.int .i64 0,.nilsl,.str []]] [.c (.str s),.c (clo1 54 (.ptr 0 0))] [.c (.ptr 1 0),.c (.int .i64 (readH tellB s).2)] [(1,rdB f (encH hd) b (encL l) z d)]:=by
 have hb:(hdC s).2.1.length≤s.length:=(cut_len s [13,10,13,10]).2
 cases hbig:bigH s with
 | true =>
  rw [readH_no1 hbig]
  refine ⟨[],[],[],[],[],false,?_⟩
  refine zf Tryz.func53 ?_
  have c1:=rcut_big hL s hl hbig
  refine zg [(2,{cs:=[(2,cb [49] c1)]}),(3,{grd:=[(3,false),(4,false),(5,false),(6,false),(7,false),(8,false),(9,false),(10,false),(11,false)]})] [false,false,false] [((4:Int)==(0:Int)) = !true,((4:Int)==(0:Int)) = !true,((4:Int)==(0:Int)) = !true,((4:Int)==(0:Int)) = !true,((4:Int)==(0:Int)) = !true,((4:Int)==(0:Int)) = !true,((4:Int)==(0:Int)) = !true,((4:Int)==(0:Int)) = !true,((4:Int)==(0:Int))=false,false=false,((4:Int)==(0:Int))=false,((4:Int)==(0:Int))=false] ⟨rfl,rfl,rfl,rfl,rfl,rfl,rfl,rfl,rfl,rfl,rfl,rfl⟩ ?_
  exact zb [49]
 | false =>
  cases hi:(hdC s).2.2 with
  | false =>
   rw [readH_no2 hbig hi]
   refine ⟨[],[],[],[],[],false,?_⟩
   refine zf Tryz.func53 ?_
   have c1:=rcut_form hL s hl hbig hi
   refine zg [(2,{cs:=[(2,cb [49] c1)]}),(3,{grd:=[(3,false),(4,false),(5,false),(6,false),(7,false),(8,false),(9,false),(10,false),(11,false)]})] [false,false,false] [((3:Int)==(0:Int)) = !true,((3:Int)==(0:Int)) = !true,((3:Int)==(0:Int)) = !true,((3:Int)==(0:Int)) = !true,((3:Int)==(0:Int)) = !true,((3:Int)==(0:Int)) = !true,((3:Int)==(0:Int)) = !true,((3:Int)==(0:Int)) = !true,((3:Int)==(0:Int))=false,false=false,((3:Int)==(0:Int))=false,((3:Int)==(0:Int))=false] ⟨rfl,rfl,rfl,rfl,rfl,rfl,rfl,rfl,rfl,rfl,rfl,rfl⟩ ?_
   exact zb [49]
  | true =>
   by_cases hm:(linesH s).length>25
   ·rw [readH_no3 hbig hi hm]
    refine ⟨[],(hdC s).2.1,[],[],linesH s,false,?_⟩
    refine zf Tryz.func53 ?_
    have c1:=rcut_many hL s hl hbig hi hm
    refine zg [(2,{cs:=[(2,cb [49] c1)]}),(3,{grd:=[(3,false),(4,false),(5,false),(6,false),(7,false),(8,false),(9,false),(10,false),(11,false)]})] [false,false,false] [((4:Int)==(0:Int)) = !true,((4:Int)==(0:Int)) = !true,((4:Int)==(0:Int)) = !true,((4:Int)==(0:Int)) = !true,((4:Int)==(0:Int)) = !true,((4:Int)==(0:Int)) = !true,((4:Int)==(0:Int)) = !true,((4:Int)==(0:Int)) = !true,((4:Int)==(0:Int))=false,false=false,((4:Int)==(0:Int))=false,((4:Int)==(0:Int))=false] ⟨rfl,rfl,rfl,rfl,rfl,rfl,rfl,rfl,rfl,rfl,rfl,rfl⟩ ?_
    exact zb [49]
   ·have hsp:=splitH_yes hbig hi hm
    have c1:=rcut_yes hL s hl hbig hi oM
    have hfs:=first_sm s
    have hfl:=fldsL_sm s
    have hcl:=cl_sm s
    have hfn:(fieldsL s).length<1000000:=by unfold fieldsL;rw [List.length_drop];omega
    have hfe:∀ k,((fieldsL s).getD k []).length<1000000000:=fun k=>by
     rw [List.getD_eq_getElem?_getD]
     cases hx:(fieldsL s)[k]? with
     | none=>show 0<_; omega
     | some x=>have:=hfl x (List.mem_of_getElem? hx); simp; omega
    have c2:=tellL_ok hL (firstH s) 0 oM
    cases hf:tellB (firstH s) with
    | false =>
     rw [readH_line hsp hf]
     rw [hf] at c2
     refine ⟨firstH s,(hdC s).2.1,[],[],fieldsL s,false,?_⟩
     refine zf Tryz.func53 ?_
     clear hf
     refine zg [(3,{grd:=[(3,true),(4,true),(5,true),(6,true),(7,true),(8,true),(9,true),(10,true)],cs:=[(9,cb [0] c2)]}),(2,{cs:=[(2,cb [49] c1)]})] [true,false,false] [((0:Int)==(0:Int))=true,((0:Int)==(0:Int))=true,((0:Int)==(0:Int))=true,((0:Int)==(0:Int))=true,((0:Int)==(0:Int))=true,((0:Int)==(0:Int))=true,((0:Int)==(0:Int))=true,((0:Int)==(0:Int))=true,(bif (0:Int)==(0:Int) then !false else false)=true,((3:Int)==(0:Int))=false,((3:Int)==(0:Int))=false] ⟨rfl,rfl,rfl,rfl,rfl,rfl,rfl,rfl,rfl,rfl,rfl⟩ ?_
     refine Wp.ent' kR (Ent.blkE (id:=49) (b:=rdB (firstH s) .nilsl (hdC s).2.1 (encL (fieldsL s)) [] false) (b':=rdB (firstH s) (encH []) (hdC s).2.1 (encL (fieldsL s)) [] false) kR (rdz_eqv _ _ _) rfl) ?_
     exact zb [49]
    | true =>
     rw [hf] at c2
     have c3:=rfields_ok hL (firstH s) (hdC s).2.1 (fieldsL s) hfe hfn
     cases hO:fieldsO (fieldsL s) [] with
     | false =>
      rw [readH_flds hsp hf hO]
      rw [hO] at c3
      refine ⟨firstH s,(hdC s).2.1,(fGet (fieldsA (fieldsL s) []) clN).getD [],(fieldsA (fieldsL s) []).filter notCl,fieldsL s,(fGet (fieldsA (fieldsL s) []) clN).isSome,?_⟩
      refine zf Tryz.func53 ?_
      clear hf h
      refine zg [(3,{grd:=[(3,true),(4,true),(5,true),(6,true),(7,true),(8,true),(9,true),(10,true)],cs:=[(9,cb [0] c2)]}),(2,{cs:=[(2,cb [49] c1)]}),(6,{cs:=[(1,cb [49] c3)]})] [false,true,false] [((0:Int)==(0:Int))=true,((0:Int)==(0:Int))=true,((0:Int)==(0:Int))=true,((0:Int)==(0:Int))=true,((0:Int)==(0:Int))=true,((0:Int)==(0:Int))=true,((0:Int)==(0:Int))=true,((0:Int)==(0:Int))=true,(bif (0:Int)==(0:Int) then !true else false)=false,((0:Int)==(0:Int))=true,((if false=true then (0:Int) else (3:Int))==(0:Int))=false] ⟨rfl,rfl,rfl,rfl,rfl,rfl,rfl,rfl,rfl,rfl,rfl⟩ ?_
      exact zb [49]
     | true =>
      rw [readH_end hsp hf hO] at h ⊢
      rw [hO] at c3
      have c4:=rsized_ok (G:=G) (firstH s) (hdC s).2.1 ((fGet (fieldsA (fieldsL s) []) clN).getD []) (fGet (fieldsA (fieldsL s) []) clN).isSome ((fieldsA (fieldsL s) []).filter notCl) (fieldsL s) oM oM
      rw [show szE ((fGet (fieldsA (fieldsL s) []) clN).getD []) (fGet (fieldsA (fieldsL s) []) clN).isSome (hdC s).2.1=bodyE (fieldsA (fieldsL s) []) (hdC s).2.1 from rfl] at c4
      by_cases he:bodyE (fieldsA (fieldsL s) []) (hdC s).2.1=0
      ·rw [if_pos he] at h
       exact (h rfl).elim
      ·rw [if_neg he]
       refine ⟨firstH s,(hdC s).2.1,(fGet (fieldsA (fieldsL s) []) clN).getD [],(fieldsA (fieldsL s) []).filter notCl,fieldsL s,(fGet (fieldsA (fieldsL s) []) clN).isSome,?_⟩
       refine zf Tryz.func53 ?_
       clear hf h
       refine zg [(3,{grd:=[(3,true),(4,true),(5,true),(6,true),(7,true),(8,true),(9,true),(10,true)],cs:=[(9,cb [0] c2)]}),(2,{cs:=[(2,cb [49] c1)]}),(6,{cs:=[(1,cb [49] c3)]}),(8,{cs:=[(1,cb [49] c4)]})] [false,true,true] [((0:Int)==(0:Int))=true,((0:Int)==(0:Int))=true,((0:Int)==(0:Int))=true,((0:Int)==(0:Int))=true,((0:Int)==(0:Int))=true,((0:Int)==(0:Int))=true,((0:Int)==(0:Int))=true,((0:Int)==(0:Int))=true,(bif (0:Int)==(0:Int) then !true else false)=false,((0:Int)==(0:Int))=true,((if true=true then (0:Int) else (3:Int))==(0:Int))=true] ⟨rfl,rfl,rfl,rfl,rfl,rfl,rfl,rfl,rfl,rfl,rfl⟩ ?_
       exact zb [49]
theorem readsR_yes (hL:HasLen G) (s:List UInt8) (hl:s.length<1000000000) (h:(readH tellB s).2=0):∃ (f z:List UInt8) (l:List (List UInt8)) (d:Bool),FnB Tryz.prog G 53 [.box 39 [.int .i64 0,.nilsl,.str []]] [.c (.str s),.c (clo1 54 (.ptr 0 0))] [.c (.ptr 1 0),.c (.int .i64 0)] [(0,.box 39 [.int .i64 (tellN (firstH s)),.nilsl,.str []]),(1,rdB f (encH (readH tellB s).1) (hdC s).2.1 (encL l) z d)]:=by
 have hb:(hdC s).2.1.length≤s.length:=(cut_len s [13,10,13,10]).2
 cases hbig:bigH s with
 | true=>rw [readH_no1 hbig] at h; cases h
 | false =>
  cases hi:(hdC s).2.2 with
  | false=>rw [readH_no2 hbig hi] at h; cases h
  | true =>
   by_cases hm:(linesH s).length>25
   ·rw [readH_no3 hbig hi hm] at h;cases h
   ·have hsp:=splitH_yes hbig hi hm
    have c1:=rcut_yes hL s hl hbig hi oM
    have hfs:=first_sm s
    have hfl:=fldsL_sm s
    have hcl:=cl_sm s
    have hfn:(fieldsL s).length<1000000:=by unfold fieldsL;rw [List.length_drop];omega
    have hfe:∀ k,((fieldsL s).getD k []).length<1000000000:=fun k=>by
     rw [List.getD_eq_getElem?_getD]
     cases hx:(fieldsL s)[k]? with
     | none=>show 0<_; omega
     | some x=>have:=hfl x (List.mem_of_getElem? hx); simp; omega
    have c2:=tellL_ok hL (firstH s) 0 oM
    cases hf:tellB (firstH s) with
    | false=>rw [readH_line hsp hf] at h; cases h
    | true =>
     rw [hf] at c2
     have c3:=rfields_ok hL (firstH s) (hdC s).2.1 (fieldsL s) hfe hfn
     cases hO:fieldsO (fieldsL s) [] with
     | false=>rw [readH_flds hsp hf hO] at h; cases h
     | true =>
      rw [readH_end hsp hf hO] at h ⊢
      rw [hO] at c3
      have c4:=rsized_ok (G:=G) (firstH s) (hdC s).2.1 ((fGet (fieldsA (fieldsL s) []) clN).getD []) (fGet (fieldsA (fieldsL s) []) clN).isSome ((fieldsA (fieldsL s) []).filter notCl) (fieldsL s) oM oM
      rw [show szE ((fGet (fieldsA (fieldsL s) []) clN).getD []) (fGet (fieldsA (fieldsL s) []) clN).isSome (hdC s).2.1=bodyE (fieldsA (fieldsL s) []) (hdC s).2.1 from rfl] at c4
      by_cases he:bodyE (fieldsA (fieldsL s) []) (hdC s).2.1=0
      ·rw [if_pos he]
       rw [he] at c4
       refine ⟨firstH s,(fGet (fieldsA (fieldsL s) []) clN).getD [],fieldsL s,(fGet (fieldsA (fieldsL s) []) clN).isSome,?_⟩
       refine zf Tryz.func53 ?_
       clear hf h he
       refine zg [(3,{grd:=[(3,true),(4,true),(5,true),(6,true),(7,true),(8,true),(9,true),(10,true)],cs:=[(9,cb [0] c2)]}),(2,{cs:=[(2,cb [49] c1)]}),(6,{cs:=[(1,cb [49] c3)]}),(8,{cs:=[(1,cb [49] c4)]})] [false,true,true] [((0:Int)==(0:Int))=true,((0:Int)==(0:Int))=true,((0:Int)==(0:Int))=true,((0:Int)==(0:Int))=true,((0:Int)==(0:Int))=true,((0:Int)==(0:Int))=true,((0:Int)==(0:Int))=true,((0:Int)==(0:Int))=true,(bif (0:Int)==(0:Int) then !true else false)=false,((0:Int)==(0:Int))=true,((if true=true then (0:Int) else (3:Int))==(0:Int))=true] ⟨rfl,rfl,rfl,rfl,rfl,rfl,rfl,rfl,rfl,rfl,rfl⟩ ?_
       exact zb [49]
      ·rw [if_neg he] at h
       exact (he h).elim
theorem parseR_ok (hL:HasLen G) (s:List UInt8) (hl:s.length<1000000000):Pur Tryz.prog G 13 [.c (.str s)] [.agg (encT (parseR s).1),.c (.int .i64 (parseR s).2)]:=by
 have e0:EqvD (.agg [.int .i64 0,.nilsl,.str []]) (.agg (encT nilR)):=agg_eqv (.cons CEq.rfl' (.cons CEq.nil (.cons CEq.rfl' .nil)))
 cases hr:decide ((readH tellB s).2=0) with
 | false =>
  have hr:=of_decide_eq_false hr
  obtain ⟨f,b,z,hd,l,d,c⟩:=readsR_no hL s hl hr
  have hp:parseR s=(nilR,(readH tellB s).2):=by unfold parseR;rw [if_neg hr]
  rw [hp]
  have ht:((readH tellB s).2 != 0)=true:=bne_iff_ne.2 hr
  generalize (readH tellB s).2=e at c ht
  clear hr hp
  refine zp Tryz.func13 ?_
  refine zg [(2,{cs:=[(2,cb [32] c)],fm:=[(1,.c (clo1 54 (.ptr 32 0)))]}),(4,{fm:=[(0,.agg (encT nilR))]})] [true] [EqvI (.c (cloRaw 54 [.c (.ptr 32 0)])) (.c (clo1 (54:FuncId) (.ptr 32 0))),EqvD (.c (cloRaw 54 [.c (.ptr 32 0)])) (.c (clo1 (54:FuncId) (.ptr 32 0))),(e != (0:Int))=true,EqvI (.agg [.int .i64 0,.nilsl,.str []]) (.agg (encT nilR)),EqvD (.agg [.int .i64 0,.nilsl,.str []]) (.agg (encT nilR))] ⟨clo1_I _ _,clo1_D _ _,aS,eqvI_flat _ _ kR,(show EqvD (.agg [.int .i64 (0:Int),.nilsl,.str []]) (.agg (encT nilR)) from aS)⟩ ?_
  exact zr
 | true =>
  have hr:=of_decide_eq_true hr
  obtain ⟨f,z,l,d,c⟩:=readsR_yes hL s hl hr
  have hp:parseR s=(⟨tellN (firstH s),(readH tellB s).1,(hdC s).2.1⟩,0):=by unfold parseR;rw [if_pos hr]
  rw [hp]
  have ht:((0:Int) != 0)=false:=rfl
  generalize (readH tellB s).1=H at c
  clear hr hp
  refine zp Tryz.func13 ?_
  refine zg [(2,{cs:=[(2,cb [32] c)],fm:=[(1,.c (clo1 54 (.ptr 32 0)))]})] [false] [EqvI (.c (cloRaw 54 [.c (.ptr 32 0)])) (.c (clo1 (54:FuncId) (.ptr 32 0))),EqvD (.c (cloRaw 54 [.c (.ptr 32 0)])) (.c (clo1 (54:FuncId) (.ptr 32 0))),((0:Int) != (0:Int))=false] ⟨clo1_I _ _,clo1_D _ _,rfl⟩ ?_
  exact zr
theorem age_ok (s:List UInt8) (hl:s.length<1000000000):Pur Tryz.prog G 75 [.c (.str s)] [.c (.int .i64 (ageT s))]:=by
 refine zp Tryz.func75 ?_
 refine z0 [] [] ?_
 refine zl (fun (x:Nat×Nat)=>⟨[(0,.v (.c (.str s))),(3,.v (.c (.int .i64 (x.2:Int)))),(4,.v (.c (.int .i64 (x.1:Int))))],[],48⟩) (fun x=>x.1≤s.length∧x.2≤20000000000000∧ageT s=ageL s (s.drop x.1) x.2) (fun x=>s.length-x.1) (0,0) ⟨Nat.zero_le _,Nat.zero_le _,rfl⟩ ?_
 rintro ⟨k,n⟩ L ⟨hk,hn,hq⟩ again
 simp only at hk hn hq
 rcases Nat.lt_or_ge k s.length with hlt | hge
 ·rw [dropS s k hlt,ageL] at hq
  have c:=digit6_ok (G:=G) (s.getD k 0)
  cases hd:digitB (s.getD k 0) with
  | false =>
   rw [hd] at hq c
   have hq:ageT s = -1:=hq
   rw [hq]
   clear hq
   refine zg [(5,{cs:=[(3,pc c)]})] [true,true] [decide ((k:Int)<(s.length:Int))=true,(0:Int)≤(k:Int)∧(k:Int)<(s.length:Int),(bif !false then true else decide ((n:Int)>(1099511627776:Int)))=true] ⟨sO,oM,rfl⟩ ?_
   exact zr
  | true =>
   rw [hd] at hq c
   have hb:=dig_to hd
   cases hm:decide (n>1099511627776) with
   | true =>
    rw [hm] at hq
    have hq:ageT s = -1:=hq
    rw [hq]
    have hm2:decide ((n:Int)>1099511627776)=true:=by have:=of_decide_eq_true hm;simp;omega
    clear hq hm
    refine zg [(5,{cs:=[(3,pc c)]})] [true,true] [decide ((k:Int)<(s.length:Int))=true,(0:Int)≤(k:Int)∧(k:Int)<(s.length:Int),(bif !true then true else decide ((n:Int)>(1099511627776:Int)))=true] ⟨sO,oM,(show (bif !true then true else decide ((↑n:Int)>(1099511627776:Int)))=true from aS)⟩ ?_
    exact zr
   | false =>
    rw [hm] at hq
    have hq:ageT s=ageL s (s.drop (k+1)) (n*10+((s.getD k 0).toNat-48)):=hq
    have hm1:=of_decide_eq_false hm
    have hm2:decide ((n:Int)>1099511627776)=false:=by simp;omega
    have ew:IntKind.u8.wrap (((s.getD k 0).toNat:Int)-48)=(((s.getD k 0).toNat-48:Nat):Int):=by rw [wrap8 oM oM];omega
    have ew2:IntKind.i64.wrap (((s.getD k 0).toNat-48:Nat):Int)=(((s.getD k 0).toNat-48:Nat):Int):=wrap64 oM oM
    have e7:EqvD (.c (.int .u8 (IntKind.u8.wrap (((s.getD k 0).toNat:Int)-48)))) (.c (.int .u8 (((s.getD k 0).toNat-48:Nat):Int))):=eqvD_of (by rw [ew])
    have e8:EqvD (.c (.int .i64 (IntKind.i64.wrap (((s.getD k 0).toNat-48:Nat):Int)))) (.c (.int .i64 (((s.getD k 0).toNat-48:Nat):Int))):=eqvD_of (by rw [ew2])
    have e9:EqvD (.c (.int .i64 ((n:Int)*10+(((s.getD k 0).toNat-48:Nat):Int)))) (.c (.int .i64 ((n*10+((s.getD k 0).toNat-48):Nat):Int))):=eqvD_of (by rw [show (n:Int)*10+(((s.getD k 0).toNat-48:Nat):Int)=((n*10+((s.getD k 0).toNat-48):Nat):Int) from by omega])
    clear hm ew ew2
    refine zg [(7,{fm:=[(5,.c (.int .u8 (((s.getD k 0).toNat-48:Nat):Int))),(6,.c (.int .i64 (((s.getD k 0).toNat-48:Nat):Int))),(7,.c (.int .i64 ((n*10+((s.getD k 0).toNat-48):Nat):Int)))]}),(5,{cs:=[(3,pc c)]})] [true,false] [decide ((k:Int)<(s.length:Int))=true,(0:Int)≤(k:Int)∧(k:Int)<(s.length:Int),(bif !true then true else decide ((n:Int)>(1099511627776:Int)))=false,inR .i64 ((n:Int)*10),(0:Int)≤(k:Int)∧(k:Int)<(s.length:Int),EqvI (.c (.int .u8 (IntKind.u8.wrap ((↑(s.getD k (0:UInt8)).toNat:Int)-(48:Int))))) (.c (.int .u8 (↑((s.getD k (0:UInt8)).toNat-(48:Nat)):Int))),EqvD (.c (.int .u8 (IntKind.u8.wrap ((↑(s.getD k (0:UInt8)).toNat:Int)-(48:Int))))) (.c (.int .u8 (↑((s.getD k (0:UInt8)).toNat-(48:Nat)):Int))),EqvI (.c (.int .i64 (IntKind.i64.wrap (↑((s.getD k (0:UInt8)).toNat-(48:Nat)):Int)))) (.c (.int .i64 (↑((s.getD k (0:UInt8)).toNat-(48:Nat)):Int))),EqvD (.c (.int .i64 (IntKind.i64.wrap (↑((s.getD k (0:UInt8)).toNat-(48:Nat)):Int)))) (.c (.int .i64 (↑((s.getD k (0:UInt8)).toNat-(48:Nat)):Int))),EqvI (.c (.int .i64 ((n:Int)*(10:Int)+(↑((s.getD k (0:UInt8)).toNat-(48:Nat)):Int)))) (.c (.int .i64 (↑(n*(10:Nat)+((s.getD k (0:UInt8)).toNat-(48:Nat))):Int))),EqvD (.c (.int .i64 ((n:Int)*(10:Int)+(↑((s.getD k (0:UInt8)).toNat-(48:Nat)):Int)))) (.c (.int .i64 (↑(n*(10:Nat)+((s.getD k (0:UInt8)).toNat-(48:Nat))):Int))),inR .i64 ((n:Int)*(10:Int)+(↑((s.getD k (0:UInt8)).toNat-(48:Nat)):Int)),inR .i64 ((k:Int)+1)] ⟨sO,oM,aS,i6,oM,fun _ _=>trivial,aS,fun _ _=>trivial,aS,fun _ _=>trivial,aS,i6,i6⟩ ?_
    exact za [] (again _ (k+1,n*10+((s.getD k 0).toNat-48)) ⟨aS,⟨oM,aS⟩⟩ oM)
 ·rw [List.drop_of_length_le hge,ageL] at hq
  rw [hq]
  have c:Pur Tryz.prog G 130 [.c (.int .i64 (n:Int))] [.c (.str (Lib.decDigits n))]:=dig_nat n oM
  cases hm:decide (n>1099511627776) with
  | true =>
   have hm2:decide ((n:Int)>1099511627776)=true:=by have:=of_decide_eq_true hm;simp;omega
   rw [Bool.true_or,if_pos rfl]
   clear hq hm
   refine zg [(8,{cs:=[(4,pc c)]})] [false,true] [decide ((k:Int)<(s.length:Int))=false,(bif decide ((n:Int)>(1099511627776:Int)) then true else !Lib.decDigits n==s)=true] ⟨sO,(show (bif decide ((↑n:Int)>(1099511627776:Int)) then true else !Lib.decDigits n==s)=true from (by simp_all<;>omega))⟩ ?_
   exact zr
  | false =>
   have hm1:=of_decide_eq_false hm
   have hm2:decide ((n:Int)>1099511627776)=false:=by simp;omega
   rw [Bool.false_or]
   cases he:(Lib.decDigits n==s) with
   | true =>
    clear hq hm
    refine zg [(8,{cs:=[(4,pc c)]})] [false,false] [decide ((k:Int)<(s.length:Int))=false,(bif decide ((n:Int)>(1099511627776:Int)) then true else !Lib.decDigits n==s)=false] ⟨sO,(show (bif decide ((↑n:Int)>(1099511627776:Int)) then true else !Lib.decDigits n==s)=false from (by simp_all<;>omega))⟩ ?_
    exact zr
   | false =>
    clear hq hm
    refine zg [(8,{cs:=[(4,pc c)]})] [false,true] [decide ((k:Int)<(s.length:Int))=false,(bif decide ((n:Int)>(1099511627776:Int)) then true else !Lib.decDigits n==s)=true] ⟨sO,(show (bif decide ((↑n:Int)>(1099511627776:Int)) then true else !Lib.decDigits n==s)=true from (by simp_all<;>omega))⟩ ?_
    exact zr

theorem idx_at (a t r:List UInt8) (c:UInt8) (h:c∉a):Lib.index (a++(c::r)++t) (c::r)=a.length:=by
 refine Lib.index_first (by simp only [List.length_append];omega) ?_ (fun j hj => ?_)
 ·unfold Lib.occAt
  rw [List.append_assoc,List.drop_left]
  exact List.isPrefixOf_iff_prefix.2 (List.prefix_append _ _)
 ·unfold Lib.occAt
  have hx:(a++(c::r)++t).drop j=a.getD j 0::(a++(c::r)++t).drop (j+1):=by
   rw [dropS _ j (by simp only [List.length_append];omega)]
   congr 1
   rw [List.append_assoc,List.getD_eq_getElem?_getD,List.getD_eq_getElem?_getD,List.getElem?_append_left hj]
  rw [hx,List.isPrefixOf]
  have:(c==a.getD j 0)=false:=by
   rw [beq_eq_false_iff_ne]
   rintro rfl
   exact h (by rw [List.getD_eq_getElem?_getD,List.getElem?_eq_getElem hj];exact List.getElem_mem hj)
  rw [this];rfl
theorem cut_at (a t r:List UInt8) (c:UInt8) (h:c∉a):Lib.cut (a++(c::r)++t) (c::r)=(a,t,true):=by
 unfold Lib.cut
 rw [idx_at a t r c h,if_pos oM]
 have e:((a.length:Nat):Int).toNat=a.length:=by omega
 rw [e,List.append_assoc,List.take_left,← List.append_assoc,show a.length+(c::r).length=(a++(c::r)).length from by simp,List.drop_left]
theorem plain_ne (c:UInt8) (h:plainB c=true):c≠59∧c≠61:=by
 have:=byte_all (fun c => !plainB c||(!(c==59) && !(c==61))) kR c
 simp only [h,Bool.not_true,Bool.false_or,Bool.and_eq_true,Bool.not_eq_true',beq_eq_false_iff_ne] at this
 exact this
theorem dig_ne (c:UInt8) (h:digitB c=true):c≠59:=by
 have:=byte_all (fun c => !digitB c || !(c==59)) kR c
 simp only [h,Bool.not_true,Bool.false_or,Bool.not_eq_true',beq_eq_false_iff_ne] at this
 exact this
theorem may_parts {f:FT} (h:mayC f=true):(∀ c∈f.name,plainB c=true)∧(∀ c∈f.value,plainB c=true)∧f.name.length≤128∧f.value.length≤128:=by
 unfold mayC at h
 cases h1:wdT f.name with
 | false=>rw [h1] at h; cases h
 | true =>
  rw [h1] at h
  have h:wdT f.value=true:=h
  unfold wdT at h h1
  simp only [Bool.and_eq_true,decide_eq_true_eq,List.all_eq_true] at h h1
  exact ⟨h1.1,h.1,h1.2.2,h.2.2⟩
theorem pair_59 {f:FT} (h:mayC f=true):(59:UInt8)∉pairC f:=by
 obtain ⟨h1,h2,_⟩:=may_parts h
 unfold pairC
 simp only [List.mem_append,List.mem_singleton,not_or]
 exact ⟨⟨fun hc=>(plain_ne _ (h1 _ hc)).1 rfl,by decide⟩,fun hc=>(plain_ne _ (h2 _ hc)).1 rfl⟩
theorem pair_cut {f:FT} (h:mayC f=true):Lib.cut (pairC f) [61]=(f.name,f.value,true):=by
 obtain ⟨h1,_⟩:=may_parts h
 exact cut_at f.name f.value [] 61 (fun hc=>(plain_ne _ (h1 _ hc)).2 rfl)
theorem dec_59 (m:Nat):(59:UInt8)∉Lib.decDigits m:=fun hc=>by
 have:=dec_all m
 rw [List.all_eq_true] at this
 exact dig_ne _ (this _ hc) rfl
def setT (f:FT) (m:Nat):List UInt8:=pairC f++ageC++Lib.decDigits m++behC
theorem set_set {f:FT} {m:Nat} (h:mayC f=true) (hm:m≤1099511627776):setC f (m:Int)=setT f m:=by
 have hb:badC f (m:Int)=false:=by
  unfold badC;rw [h,decide_eq_false (by omega),decide_eq_false (by omega)];rfl
 unfold setC setT
 rw [if_neg (by rw [hb];decide),Lib.itoa_nonneg]
theorem read14_yes (f:FT) (n:Nat) (hf:mayC f=true) (hn:n≤1099511627776):Pur Tryz.prog G 22 [.c (.str (setT f n))] [.agg (encF f),.c (.bool true)]:=by
 refine zp Tryz.func22 ?_
 obtain ⟨p1,p2,p3,p4⟩:=may_parts hf
 have hd:=dec_len_le 13 n oM
 have hl:(pairC f).length≤300:=by unfold pairC;simp;omega
 have hla:ageC.length=10:=kR
 have hlb:behC.length=40:=kR
 have hS:(setT f n).length≤1000:=by unfold setT;simp only [List.length_append];omega
 have c1:=cut6_ok (G:=G) (setT f n) ageC oM dC dC
 have hcut:Lib.cut (setT f n) ageC=(pairC f,Lib.decDigits n++behC,true):=by
  have:=cut_at (pairC f) (Lib.decDigits n++behC) [32,77,97,120,45,65,103,101,61] 59 (pair_59 hf)
  unfold setT
  rw [List.append_assoc (pairC f++ageC)]
  exact this
 rw [hcut] at c1
 have c2:=cut6_ok (G:=G) (Lib.decDigits n++behC) [59] (by simp only [List.length_append];omega) dC dC
 have hcut2:Lib.cut (Lib.decDigits n++behC) [59]=(Lib.decDigits n,[32,80,97,116,104,61,47,59,32,83,101,99,117,114,101,59,32,72,116,116,112,79,110,108,121,59,32,83,97,109,101,83,105,116,101,61,76,97,120],true):=by
  have:=cut_at (Lib.decDigits n) [32,80,97,116,104,61,47,59,32,83,101,99,117,114,101,59,32,72,116,116,112,79,110,108,121,59,32,83,97,109,101,83,105,116,101,61,76,97,120] [] 59 (dec_59 n)
  rw [List.append_assoc] at this
  exact this
 rw [hcut2] at c2
 have c3:=cut6_ok (G:=G) (pairC f) [61] oM dC dC
 rw [pair_cut hf] at c3
 have c4:=age_ok (G:=G) (Lib.decDigits n) oM
 rw [age_dec n hn] at c4
 have c5:=set14_ok (G:=G) f (n:Int) oM oM
 rw [set_set hf hn] at c5
 have ht:(bif decide ((n:Int)<0) then true else !(setT f n==setT f n))=false:=by rw [decide_eq_false oM];simp
 clear hcut hcut2 p1 p2 hf hd
 generalize setT f n=S at *
 refine zg [(1,{cs:=[(1,pc c1)]}),(2,{cs:=[(1,pc c2)]}),(3,{cs:=[(1,pc c3)]}),(5,{cs:=[(1,pc c4)]}),(6,{cs:=[(5,pc c5)]})] [false] [(bif decide ((n:Int)<(0:Int)) then true else !S==S)=false] (oN aS) ?_
 exact zr


theorem dig_32 {t:List UInt8} (h:t.all digitB=true):(32:UInt8)∉t:=by
 intro hc
 rw [List.all_eq_true] at h
 have:=h _ hc
 revert this
 decide
theorem dig_seen {t:List UInt8} (h:t.all digitB=true):t.all seenB=true:=by
 rw [List.all_eq_true] at h ⊢
 intro c hc
 have:∀ c:UInt8,(!digitB c||seenB c)=true:=byte_all _ kR
 have:=this c
 rw [h c hc] at this
 simpa using this
theorem filter_none {l:List FT} (h:fGet l clN=none):l.filter notCl=l:=by
 rw [List.filter_eq_self]
 intro f hf
 unfold notCl
 cases hc:f.name==clN with
 | false=>rfl
 | true =>
  have:(fGet l clN).isSome=true:=by rw [← fGet_con,List.contains_iff_mem];exact List.mem_map.2 ⟨f,hf,eq_of_beq hc⟩
  rw [h] at this
  cases this

def okF (f:FT):Bool:=tokenT f.name&&((foldT f.name==f.name)&&(!(f.name==clN)&&f.value.all seenB))
def mostT (b:List UInt8):Int:=if b==[] then 24 else 23
def headT (l:List FT) (b:List UInt8):Bool:=l.all okF&&(decide ((l.length:Int)≤mostT b)&&(unlikeQ l&&decide ((b.length:Int)≤4096)))
def clL (b:List UInt8):List UInt8:=if b==[] then [] else [99,111,110,116,101,110,116,45,108,101,110,103,116,104,58,32]++Lib.itoa b.length++[13,10]
def linesT (l:List FT) (b:List UInt8):List UInt8:=l.flatMap fieldL++clL b++[13,10]
theorem ahead_lines (m:MT):aheadT m=m.first++[13,10]++linesT m.head m.body:=by
 unfold aheadT headN linesT lenL clL
 rw [List.take_length]
 simp
theorem fieldsOk_iff:∀ (l:List FT) (seen:List (List UInt8)),fieldsOk seen l=true↔∀ i,i<l.length→fOk (seen++(l.take i).map (·.name)) (l.getD i .nil)=true
 | [],seen=>by simp [fieldsOk]
 | x::r,seen=>by
  rw [fieldsOk,Bool.and_eq_true,fieldsOk_iff r]
  constructor
  ·rintro ⟨h0,h⟩ i hi
   cases i with
   | zero=>simpa using h0
   | succ i =>
    have:=h i (by simpa using hi)
    simpa using this
  ·intro h
   refine ⟨by simpa using h 0 (by simp),fun i hi => ?_⟩
   have:=h (i+1) (by simpa using hi)
   simpa using this
theorem fOk_iff (names:List (List UInt8)) (f:FT):fOk ([clN]++names) f=true↔okF f=true∧names.contains f.name=false:=by
 unfold fOk okF
 rw [List.contains_append]
 have:([clN]:List (List UInt8)).contains f.name=(f.name==clN):=by rw [Bool.eq_iff_iff];simp
 rw [this]
 cases tokenT f.name<;>cases (foldT f.name==f.name)<;>cases (f.name==clN)<;>cases f.value.all seenB<;>cases names.contains f.name<;>simp
theorem fieldsOk_eq (l:List FT):fieldsOk [clN] l=(l.all okF&&unlikeQ l):=by
 rw [Bool.eq_iff_iff,fieldsOk_iff,Bool.and_eq_true]
 have hall:l.all okF=true↔∀ i,i<l.length→okF (l.getD i .nil)=true:=by
  rw [List.all_eq_true]
  constructor
  ·intro h i hi
   exact h _ (by simp [List.getD,hi])
  ·intro h x hx
   obtain ⟨i,hi,rfl⟩:=List.getElem_of_mem hx
   have:=h i hi
   simpa [List.getD,hi] using this
 have hunl:unlikeQ l=true↔∀ i,i<l.length→okQ l i=true:=by
  unfold unlikeQ
  rw [List.all_eq_true]
  exact ⟨fun h i hi=>h i (List.mem_range.2 hi),fun h i hi=>h i (List.mem_range.1 hi)⟩
 rw [hall,hunl]
 have hq:∀ i,okQ l i=(!((l.getD i .nil).name==[]) && !((l.take i).map (·.name)).contains (l.getD i .nil).name):=fun i=>by
  unfold okQ;rw [← fGet_isIn,← fGet_con]
 constructor
 ·intro h
  refine ⟨fun i hi=>((fOk_iff _ _).1 (h i hi)).1,fun i hi => ?_⟩
  obtain ⟨h1,h2⟩:=(fOk_iff _ _).1 (h i hi)
  rw [hq,h2]
  have:tokenT (l.getD i .nil).name=true:=by unfold okF at h1;rw [Bool.and_eq_true] at h1;exact h1.1
  unfold tokenT at this
  rw [Bool.and_eq_true] at this
  rw [this.1];rfl
 ·rintro ⟨h1,h2⟩ i hi
  refine (fOk_iff _ _).2 ⟨h1 i hi,?_⟩
  have:=h2 i hi
  rw [hq,Bool.and_eq_true] at this
  simpa using this.2
theorem mayM_eq (m:MT):mayM m=(headT m.head m.body&&decide (((aheadT m).length:Int)≤2048)):=by
 unfold mayM fieldedT headT
 rw [show fieldsOk [[99,111,110,116,101,110,116,45,108,101,110,103,116,104]] m.head=fieldsOk [clN] m.head from rfl,fieldsOk_eq,show roomT m=mostT m.body from rfl]
 cases m.head.all okF<;>cases unlikeQ m.head<;>cases decide ((m.head.length:Int)≤mostT m.body)<;>cases decide ((m.body.length:Int)≤4096)<;>cases decide (((aheadT m).length:Int)≤2048)<;>rfl
theorem fGet_no {l:List FT} {n:List UInt8} (h:(fGet l n).isSome=false):∀ f∈l,f.name≠n:=by
 intro f hf he
 rw [← fGet_con] at h
 have:(l.map (·.name)).contains n=true:=by rw [List.contains_iff_mem];exact List.mem_map.2 ⟨f,hf,he⟩
 rw [h] at this
 cases this
theorem getD_mem {l:List FT} {i:Nat} (h:i<l.length):l.getD i .nil∈l:=by simp [List.getD,h]
theorem itoa_nat (n:Nat):Lib.itoa (n:Int)=Lib.decDigits n:=by
 unfold Lib.itoa
 rw [if_neg oM]
 simp
theorem dec_len4 {n:Nat} (h:n≤5000):(Lib.decDigits n).length≤4:=dec_len_le 3 n oM

end Go.Proofs.Tw
end
section
open Go Go.Sv
namespace Go.Proofs.Tw
set_option maxRecDepth 100000
set_option maxHeartbeats 4000000
theorem idx_no (a r:List UInt8) (c:UInt8) (h:c∉a):Lib.index a (c::r) = -1:=by
 refine Lib.index_none fun j hj => ?_
 cases hq:Lib.occAt a (c::r) j with
 | false=>rfl
 | true =>
  have:=Lib.occAt_head rfl hq
  exact (h (List.mem_of_getElem? this)).elim
theorem join_two (x:List UInt8) (r:List (List UInt8)) (sep:List UInt8) (h:r≠[]):Lib.join (x::r) sep=x++sep++Lib.join r sep:=by
 cases r with
 | nil=>exact (h rfl).elim
 | cons y r=>rw [Lib.join_cons,Lib.join_cons]; simp [Lib.joinTail]
theorem split_join (c:UInt8) (r:List UInt8):∀ l:List (List UInt8),l≠[]→(∀ x∈l,c∉x)→Lib.split (Lib.join l (c::r)) (c::r)=l
 | [],h,_=>(h rfl).elim
 | [x],_,hx=>by rw [Lib.join_one,split_miss (idx_no x r c (hx x (by simp)))]
 | x::y::l,_,hx=>by
  rw [join_two x (y::l) (c::r) (by simp),split_hit (by simp) (idx_at x (Lib.join (y::l) (c::r)) r c (hx x (by simp)))]
  have ih:=split_join c r (y::l) (by simp) (fun z hz=>hx z (by simp [hz]))
  rw [List.append_assoc,List.take_left,← List.append_assoc,show x.length+(c::r).length=(x++(c::r)).length from by simp,List.drop_left,ih]
end Go.Proofs.Tw
end
section
open Go Go.Sv Go.RowKit
namespace Go.Proofs.Tw
set_option maxRecDepth 100000
set_option maxHeartbeats 4000000
def OkLn (x:List UInt8):Prop:=x≠[]∧(13:UInt8)∉x
theorem join_13:∀ (l:List (List UInt8)),l≠[]→(∀ x∈l,OkLn x)→∀ j:Nat,(Lib.join l [13,10])[j]?=some 13→∃ c,(Lib.join l [13,10])[j+2]?=some c∧c≠13
 | [],h,_,_,_=>(h rfl).elim
 | [x],_,hx,j,hj=>by
  rw [Lib.join_one] at hj
  exact ((hx x (by simp)).2 (List.mem_of_getElem? hj)).elim
 | x::y::l,_,hx,j,hj=>by
  rw [join_two x (y::l) [13,10] (by simp)] at hj ⊢
  have h0:=hx x (by simp)
  have hy:=hx y (by simp)
  have ih:=join_13 (y::l) (by simp) (fun z hz=>hx z (by simp [hz]))
  rcases Nat.lt_or_ge j x.length with h1 | h1
  ·rw [List.append_assoc,List.getElem?_append_left h1] at hj
   exact (h0.2 (List.mem_of_getElem? hj)).elim
  ·rcases Nat.lt_or_ge j (x.length+2) with h2 | h2
   ·rcases Nat.lt_or_ge j (x.length+1) with h3 | h3
    ·obtain rfl:j=x.length:=by omega
     rw [List.getElem?_append_right (by simp),show x.length+2-(x++([13,10]:List UInt8)).length=0 from by simp]
     have:∃ c r,Lib.join (y::l) [13,10]=c::r∧c∈y:=by
      rw [Lib.join_cons]
      cases y with
      | nil=>exact (hy.1 rfl).elim
      | cons c r=>exact ⟨c,r++Lib.joinTail [13,10] l,rfl,by simp⟩
     obtain ⟨c,r,e,hc⟩:=this
     exact ⟨c,by rw [e];rfl,fun e13=>hy.2 (e13▸hc)⟩
    ·obtain rfl:j=x.length+1:=by omega
     rw [List.getElem?_append_left (by simp),List.getElem?_append_right oM] at hj
     simp at hj
   ·rw [List.getElem?_append_right sO] at hj ⊢
    simp only [List.length_append,List.length_cons,List.length_nil] at hj ⊢
    obtain ⟨c,hc,hn⟩:=ih _ hj
    exact ⟨c,by rw [← hc];congr 1;omega,hn⟩
theorem cut_head (l:List (List UInt8)) (b:List UInt8) (hl:l≠[]) (hx:∀ x∈l,OkLn x):Lib.cut (Lib.join l [13,10]++[13,10,13,10]++b) [13,10,13,10]=(Lib.join l [13,10],b,true):=by
 have h:=join_13 l hl hx
 generalize Lib.join l [13,10]=H at *
 have hi:Lib.index (H++[13,10,13,10]++b) [13,10,13,10]=H.length:=by
  refine Lib.index_first (by simp) ?_ fun j hj => ?_
  ·unfold Lib.occAt
   rw [List.append_assoc,List.drop_left]
   exact List.isPrefixOf_iff_prefix.2 ⟨b,rfl⟩
  ·cases hq:Lib.occAt (H++[13,10,13,10]++b) [13,10,13,10] j with
   | false=>rfl
   | true =>
    have h13:=Lib.occAt_head rfl hq
    rw [List.append_assoc,List.getElem?_append_left hj] at h13
    obtain ⟨c,hc,hn⟩:=h j h13
    have hc':(H++[13,10,13,10]++b)[j+2]?=some c:=by
     have:j+2<H.length:=by
      rcases Nat.lt_or_ge (j+2) H.length with h | h
      ·exact h
      ·rw [List.getElem?_eq_none h] at hc;cases hc
     rw [List.append_assoc,List.getElem?_append_left this];exact hc
    unfold Lib.occAt at hq
    obtain ⟨t,ht⟩:=List.isPrefixOf_iff_prefix.1 hq
    have h2:((H++[13,10,13,10]++b).drop j)[2]?=some 13:=by rw [← ht];rfl
    rw [List.getElem?_drop,hc'] at h2
    exact (hn (Option.some.inj h2)).elim
 unfold Lib.cut
 rw [hi,if_pos oM]
 simp only [Int.toNat_natCast]
 refine Prod.ext ?_ (Prod.ext ?_ rfl)
 ·show (H++[13,10,13,10]++b).take H.length=H
  rw [List.append_assoc,List.take_left]
 ·show (H++[13,10,13,10]++b).drop (H.length+4)=b
  rw [show H.length+4=(H++[13,10,13,10]).length from by simp,List.drop_left]
def lnF (f:FT):List UInt8:=f.name++[58,32]++f.value
def lnsT (l:List FT) (b:List UInt8):List (List UInt8):=l.map lnF++if b=[] then [] else [clN++[58,32]++Lib.decDigits b.length]
theorem tail_lines:∀ (l:List (List UInt8)),[13,10]++l.flatMap (fun p=>p++[13,10])=Lib.joinTail [13,10] l++[13,10]
 | []=>rfl
 | x::r=>by
  have:=tail_lines r
  unfold Lib.joinTail at *
  rw [List.map_cons,List.flatten_cons,List.flatMap_cons,List.append_assoc _ _ [13,10],← this]
  simp
theorem lines_join (F:List UInt8) (l:List FT) (b:List UInt8):F++[13,10]++linesT l b=Lib.join (F::lnsT l b) [13,10]++[13,10,13,10]:=by
 rw [Lib.join_cons]
 have h:l.flatMap fieldL++clL b=(lnsT l b).flatMap (fun p=>p++[13,10]):=by
  unfold lnsT clL
  rw [List.flatMap_append,List.flatMap_map]
  congr 1
  cases b with
  | nil=>rfl
  | cons c r =>
   rw [if_neg (by simp),if_neg (by simp),itoa_nat]
   simp [clN]
 unfold linesT
 rw [h,List.append_assoc F,← List.append_assoc [13,10] _ (_:List UInt8),tail_lines]
 simp
theorem okF_parts {f:FT} (h:okF f=true):tokenT f.name=true∧foldT f.name=f.name∧f.name≠clN∧f.value.all seenB=true:=by
 unfold okF at h
 simp only [Bool.and_eq_true,Bool.not_eq_true',beq_eq_false_iff_ne] at h
 exact ⟨h.1,eq_of_beq h.2.1,h.2.2.1,h.2.2.2⟩
theorem tok_no {s:List UInt8} (h:tokenT s=true):(13:UInt8)∉s∧(58:UInt8)∉s∧s≠[]:=by
 unfold tokenT at h
 rw [Bool.and_eq_true,List.all_eq_true] at h
 refine ⟨fun hc => ?_,fun hc => ?_,fun he => ?_⟩
 ·have:=h.2 _ hc;revert this;decide
 ·have:=h.2 _ hc;revert this;decide
 ·rw [he] at h;exact absurd h.1 dC
theorem seen_no {s:List UInt8} (h:s.all seenB=true):(13:UInt8)∉s:=by
 rw [List.all_eq_true] at h
 intro hc
 have:=h _ hc
 revert this
 decide
theorem dec_13 (n:Nat):(13:UInt8)∉Lib.decDigits n:=by
 have h:=dec_all n
 rw [List.all_eq_true] at h
 intro hc
 have:=h _ hc
 revert this
 decide
theorem lnF_ok {f:FT} (h:okF f=true):OkLn (lnF f):=by
 obtain ⟨h1,h2,h3,h4⟩:=okF_parts h
 obtain ⟨a,b,c⟩:=tok_no h1
 refine ⟨by unfold lnF;simp,?_⟩
 unfold lnF
 simp only [List.mem_append,List.mem_cons,List.not_mem_nil,or_false,not_or]
 exact ⟨⟨a,by decide,by decide⟩,seen_no h4⟩
theorem lns_ok {l:List FT} {b:List UInt8} (h:∀ f∈l,okF f=true):∀ x∈lnsT l b,OkLn x:=by
 intro x hx
 unfold lnsT at hx
 rcases List.mem_append.1 hx with hx | hx
 ·obtain ⟨f,hf,rfl⟩:=List.mem_map.1 hx
  exact lnF_ok (h f hf)
 ·split at hx
  ·cases hx
  ·rw [List.mem_singleton.1 hx]
   refine ⟨by simp [clN],?_⟩
   simp only [List.mem_append,List.mem_cons,List.not_mem_nil,or_false,not_or]
   exact ⟨⟨by decide,by decide,by decide⟩,dec_13 _⟩
theorem cut_ln {n v:List UInt8} (h:(58:UInt8)∉n):Lib.cut (n++[58,32]++v) [58,32]=(n,v,true):=cut_at n v [32] 58 h
theorem okA_ln {acc:List FT} {f:FT} (h:okF f=true) (hn:∀ g∈acc,g.name≠f.name):okA acc (lnF f)=true∧lineF (lnF f)=f:=by
 obtain ⟨h1,h2,h3,h4⟩:=okF_parts h
 obtain ⟨_,h58,_⟩:=tok_no h1
 have hc:Lib.cut (lnF f) [58,32]=(f.name,f.value,true):=cut_ln h58
 have hl:lineF (lnF f)=f:=by unfold lineF;rw [hc];show FT.mk (foldT f.name) f.value=f;rw [h2]
 refine ⟨?_,hl⟩
 unfold okA okL
 rw [hl,hc,h1,h4]
 cases hg:(fGet acc f.name).isSome with
 | false=>rfl
 | true =>
  rw [← fGet_con,List.contains_iff_mem] at hg
  obtain ⟨g,hg1,hg2⟩:=List.mem_map.1 hg
  exact (hn g hg1 hg2).elim
theorem fA_lns:∀ (l acc:List FT) (r:List (List UInt8)),(∀ f∈l,okF f=true)→(acc++l).Pairwise (fun x y=>x.name≠y.name)→fieldsA (l.map lnF++r) acc=fieldsA r (acc++l)∧fieldsO (l.map lnF++r) acc=fieldsO r (acc++l)
 | [],acc,r,_,_=>by simp
 | f::l,acc,r,h,hp=>by
  have hn:∀ g∈acc,g.name≠f.name:=fun g hg=>by
   rw [List.pairwise_append] at hp
   exact hp.2.2 g hg f (by simp)
  obtain ⟨h1,h2⟩:=okA_ln (h f (by simp)) hn
  have ih:=fA_lns l (acc++[f]) r (fun g hg=>h g (by simp [hg])) (by simpa using hp)
  rw [List.map_cons,List.cons_append,fieldsA,fieldsO,h1,if_pos rfl,if_pos rfl,h2,ih.1,ih.2]
  simp
theorem okA_cl {acc:List FT} {d:List UInt8} (hd:d.all seenB=true) (hn:fGet acc clN=none):okA acc (clN++[58,32]++d)=true∧lineF (clN++[58,32]++d)=⟨clN,d⟩:=by
 have hc:Lib.cut (clN++[58,32]++d) [58,32]=(clN,d,true):=cut_ln dC
 have hl:lineF (clN++[58,32]++d)=⟨clN,d⟩:=by unfold lineF;rw [hc];rfl
 refine ⟨?_,hl⟩
 unfold okA okL
 rw [hl,hc,hd,show (FT.mk clN d).name=clN from rfl,hn]
 rfl
theorem unlike_pw {l:List FT} (h:unlikeQ l=true):l.Pairwise (fun x y=>x.name≠y.name):=by
 unfold unlikeQ at h
 rw [List.all_eq_true] at h
 rw [List.pairwise_iff_getElem]
 intro i j hi hj hij he
 have:=h j (List.mem_range.2 hj)
 unfold okQ at this
 rw [Bool.and_eq_true,← fGet_isIn,← fGet_con] at this
 have hm:((l.take j).map (·.name)).contains (l.getD j .nil).name=true:=by
  rw [List.contains_iff_mem]
  refine List.mem_map.2 ⟨l[i],?_,?_⟩
  ·rw [List.mem_take_iff_getElem]
   exact ⟨i,by omega,rfl⟩
  ·rw [he];simp [List.getD,hj]
 rw [hm] at this
 simp at this
theorem numK_dec (n:Nat) (h:n≤5000):numK 9 (Lib.decDigits n)=true:=by
 unfold numK
 have:=dec_len4 h
 rw [canon_dec,decide_eq_true oM]
 rfl
theorem read_text {line:List UInt8→Bool} {F:List UInt8} {l:List FT} {b:List UInt8} (hF:OkLn F) (hl:line F=true) (hh:headT l b=true) (hs:(F++[13,10]++linesT l b).length≤2048) :
  readH line (F++[13,10]++linesT l b++b)=(l,0)∧firstH (F++[13,10]++linesT l b++b)=F∧(hdC (F++[13,10]++linesT l b++b)).2.1=b:=by
 unfold headT at hh
 simp only [Bool.and_eq_true,decide_eq_true_eq,List.all_eq_true] at hh
 obtain ⟨hok,hmost,hunl,hb⟩:=hh
 have hlo:∀ x∈F::lnsT l b,OkLn x:=by
  intro x hx
  rcases List.mem_cons.1 hx with rfl | hx
  ·exact hF
  ·exact lns_ok hok x hx
 have hcut:hdC (F++[13,10]++linesT l b++b)=(Lib.join (F::lnsT l b) [13,10],b,true):=by
  unfold hdC
  rw [lines_join]
  exact cut_head _ b (by simp) hlo
 have hlen:(Lib.join (F::lnsT l b) [13,10]).length+4≤2048:=by
  rw [lines_join,List.length_append] at hs
  exact hs
 have hlin:linesH (F++[13,10]++linesT l b++b)=F::lnsT l b:=by
  unfold linesH
  rw [hcut]
  exact split_join 13 [10] _ (by simp) (fun x hx=>(hlo x hx).2)
 generalize F++[13,10]++linesT l b++b=S at *
 have hbig:bigH S=false:=by unfold bigH;rw [hcut];show decide (((Lib.join (F::lnsT l b) [13,10]).length:Int)+4>2048)=false;simp;omega
 have hll:(lnsT l b).length≤24:=by
  unfold lnsT
  unfold mostT at hmost
  rw [List.length_append,List.length_map]
  by_cases hbe:b=[]
  ·subst hbe;rw [if_pos rfl];simp at hmost ⊢;omega
  ·have:(b==[])=false:=by simpa using hbe
   rw [this,if_neg dC] at hmost
   rw [if_neg hbe];simp;omega
 have hsp:splitH S=0:=splitH_yes hbig (by rw [hcut]) (by rw [hlin,List.length_cons];omega)
 have hf:firstH S=F:=by unfold firstH;rw [hlin];rfl
 have hfl:fieldsL S=lnsT l b:=by unfold fieldsL;rw [hlin];rfl
 have hpw:=unlike_pw hunl
 obtain ⟨fA,fO⟩:=fA_lns l [] (if b=[] then [] else [clN++[58,32]++Lib.decDigits b.length]) hok (by simpa using hpw)
 rw [List.nil_append] at fA fO
 have hncl:∀ g∈l,g.name≠clN:=fun g hg=>(okF_parts (hok g hg)).2.2.1
 have hno:fGet l clN=none:=by
  cases hg:(fGet l clN).isSome with
  | false=>simpa using hg
  | true =>
   rw [← fGet_con,List.contains_iff_mem] at hg
   obtain ⟨g,hg1,hg2⟩:=List.mem_map.1 hg
   exact (hncl g hg1 hg2).elim
 have hfil:l.filter notCl=l:=filter_none hno
 have hds:(Lib.decDigits b.length).all seenB=true:=dig_seen (dec_all _)
 obtain ⟨k1,k2⟩:=okA_cl hds hno
 have hO:fieldsO (fieldsL S) []=true:=by
  rw [hfl]
  unfold lnsT
  rw [fO]
  by_cases hbe:b=[]
  ·rw [if_pos hbe];rfl
  ·rw [if_neg hbe,fieldsO,k1,if_pos rfl];rfl
 refine ⟨?_,hf,by rw [hcut]⟩
 rw [readH_end hsp (by rw [hf];exact hl) hO,hfl,hcut]
 unfold lnsT
 rw [fA]
 by_cases hbe:b=[]
 ·rw [if_pos hbe,fieldsA]
  have:bodyE l b=0:=by unfold bodyE;rw [hno,hbe];rfl
  rw [if_pos this,hfil]
 ·rw [if_neg hbe,fieldsA,k1,if_pos rfl,fieldsA,k2]
  have:bodyE (l++[⟨clN,Lib.decDigits b.length⟩]) b=0:=by
   unfold bodyE
   rw [snoc_cl l _ (by simp) hno]
   show szE (Lib.decDigits b.length) true b=0
   unfold szE
   rw [if_pos rfl,numK_dec _ oM,if_neg dC,nv_dec,if_neg oM,if_pos rfl]
  rw [if_pos this,filt_cl l _ (by simp),hfil]
theorem reason_no (n:Int):(13:UInt8)∉reasonT n∧(reasonT n).all seenB=true:=by
 unfold reasonT
 repeat' split
 all_goals exact ⟨by decide,by decide⟩
theorem parse_print_R {r:RT} (h:mayTell r=true):parseR (printTell r)=(r,0):=by
 unfold printTell
 rw [if_pos h]
 unfold mayTell at h
 rw [mayM_eq,Bool.cond_false_right,Bool.and_eq_true,Bool.and_eq_true,decide_eq_true_eq] at h
 obtain ⟨hl,hh,hs⟩:=h
 have hst:=hl
 unfold statedT at hl
 rw [Bool.cond_false_right,Bool.and_eq_true,decide_eq_true_eq,decide_eq_true_eq] at hl
 obtain ⟨n,hn⟩:=Int.eq_ofNat_of_zero_le (show 0≤r.status by omega)
 have hit:Lib.itoa r.status=Lib.decDigits n:=by rw [hn,itoa_nat]
 rw [ahead_lines] at hs ⊢
 obtain ⟨r1,r2⟩:=reason_no r.status
 have hd:=dec_all n
 have hF:OkLn (toldM r).first:=by
  refine ⟨by show [72,84,84,80,47,49,46,49,32]++Lib.itoa r.status++[32]++reasonT r.status≠[];simp,?_⟩
  show (13:UInt8)∉[72,84,84,80,47,49,46,49,32]++Lib.itoa r.status++[32]++reasonT r.status
  rw [hit]
  simp only [List.mem_append,List.mem_cons,List.not_mem_nil,or_false,not_or]
  exact ⟨⟨⟨by decide,dec_13 n⟩,by decide⟩,r1⟩
 have hp:Lib.hasPrefix (toldM r).first verS=true:=List.isPrefixOf_iff_prefix.2 ⟨Lib.itoa r.status++[32]++reasonT r.status,by show verS++_=[72,84,84,80,47,49,46,49,32]++Lib.itoa r.status++[32]++reasonT r.status;unfold verS;simp⟩
 have ht:Lib.trimPrefix (toldM r).first verS=Lib.decDigits n++[32]++reasonT r.status:=by
  unfold Lib.trimPrefix
  rw [if_pos hp,← hit]
  show ([72,84,84,80,47,49,46,49,32]++Lib.itoa r.status++[32]++reasonT r.status).drop verS.length=_
  rw [show [72,84,84,80,47,49,46,49,32]++Lib.itoa r.status++[32]++reasonT r.status=verS++(Lib.itoa r.status++[32]++reasonT r.status) from by unfold verS;simp,List.drop_left]
 have hc:tellC (toldM r).first=(Lib.decDigits n,reasonT r.status,true):=by
  unfold tellC
  rw [ht]
  exact cut_at (Lib.decDigits n) (reasonT r.status) [] 32 (dig_32 hd)
 have hk:numK 3 (Lib.decDigits n)=true:=by
  unfold numK
  have:=dec_len_le 2 n oM
  rw [canon_dec,decide_eq_true oM]
  rfl
 have hN:tellN (toldM r).first=r.status:=by unfold tellN;rw [hc,if_pos hk,nv_dec,hn]
 have m3:tellB (toldM r).first=true:=by
  unfold tellB
  rw [hp,hN,hc,hk,hst,r2]
  rfl
 obtain ⟨q1,q2,q3⟩:=read_text hF m3 hh oM
 unfold parseR
 rw [show r.body=(toldM r).body from rfl,q1,if_pos rfl,q2,q3,hN]
 rfl
end Go.Proofs.Tw
end
section
open Go Go.Sv Go.RowKit
namespace Go.Proofs.Tw
attribute [local irreducible] Wp FinQ resV Ent Pur Go.Sv.Fn Sat0
set_option maxRecDepth 100000
set_option maxHeartbeats 4000000
variable {G:Nat→Option (List Cell)}
def blankB (c:UInt8):Bool:=[9,10,13,32].contains c
def skP (s:List UInt8) (p:Nat):Nat:=p+((s.drop p).takeWhile blankB).length
def atB (s:List UInt8) (p:Nat) (c:UInt8):Bool:=decide (p<s.length)&&s.getD p 0==c
def wordB (s:List UInt8) (p:Nat) (w:List UInt8):Bool:=(s.drop p).take w.length==w
def smallI (c:UInt8):Int:=if digitB c then (c.toNat:Int)-48 else if 97≤c∧c≤102 then (c.toNat:Int)-97+10 else -1
def escR (s:List UInt8) (p:Nat):UInt8×Nat×Int :=
 if atB s p 34||atB s p 92 then (s.getD p 0,p+1,0)
 else if wordB s p [117,48,48] then
  (if s.length<p+5 then (0,p+3,3)
  else if smallI (s.getD (p+3) 0)<0∨smallI (s.getD (p+3) 0)>1∨smallI (s.getD (p+4) 0)<0 then (0,p+5,3)
  else (UInt8.ofNat (smallI (s.getD (p+3) 0)*16+smallI (s.getD (p+4) 0)).toNat,p+5,0))
 else (0,p,3)
def txtR (s:List UInt8):Nat→Nat→List UInt8→List UInt8×Nat×Int
 | 0,p,b=>(b,p,3)
 | n+1,p,b=>if s.length≤p∨s.getD p 0<32 then (b,p,3) else if s.getD p 0=34 then (b,p+1,0)
  else if s.getD p 0=92 then (if (escR s (p+1)).2.2=0 then txtR s n (escR s (p+1)).2.1 (b++[(escR s (p+1)).1]) else (b++[(escR s (p+1)).1],(escR s (p+1)).2.1,3))
  else txtR s n (p+1) (b++[s.getD p 0])
def txtE (x:List UInt8×Nat×Int):List UInt8×Nat×Int:=(x.1,x.2.1,if x.2.2=0∧validT x.1=true then 0 else 3)
def textR (s:List UInt8) (p:Nat):List UInt8×Nat×Int :=
 if atB s (skP s p) 34 then txtE (txtR s (s.length+1) (skP s p+1) []) else ([],skP s p,3)
def accN:List UInt8→Nat→Nat
 | [],n=>n
 | c::r,n=>accN r (if n≤9007199254740992 then n*10+(c.toNat-48) else n)
def sgP (s:List UInt8) (p:Nat):Nat:=if atB s p 45 then p+1 else p
def digP (s:List UInt8) (p:Nat):Nat:=p+((s.drop p).takeWhile digitB).length
def numV (s:List UInt8) (p:Nat):Int:=if s.getD p 0=45 then -(accN ((s.drop (sgP s p)).takeWhile digitB) 0:Int) else (accN ((s.drop (sgP s p)).takeWhile digitB) 0:Int)
def numOk (s:List UInt8) (p:Nat):Bool:=decide (numV s p≤9007199254740992)&&decide (-9007199254740992≤numV s p)&&Lib.itoa (numV s p)==(s.drop p).take (digP s (sgP s p)-p)
def numR (s:List UInt8) (p:Nat):Int×Nat×Int:=(numV s p,digP s (sgP s p),if numOk s p then 0 else 3)
def wantR (s:List UInt8) (p:Nat) (c:UInt8):Nat×Int:=if atB s (skP s p) c then (skP s p+1,0) else (skP s p,3)
def nameR (s:List UInt8) (p:Nat) (ns:List (List UInt8)):List (List UInt8)×Nat×Int :=
 if (textR s p).2.2=0 then (if ns.contains (textR s p).1 then (ns++[(textR s p).1],(textR s p).2.1,6) else (ns++[(textR s p).1],(wantR s (textR s p).2.1 58).1,(wantR s (textR s p).2.1 58).2))
 else (ns++[(textR s p).1],(textR s p).2.1,3)
def nameO (obj:Bool) (s:List UInt8) (p:Nat) (ns:List (List UInt8)):List (List UInt8)×Nat×Int:=if obj then nameR s p ns else (ns,p,0)
def endC (obj:Bool):UInt8:=if obj then 125 else 93
def manyR (f:Nat→JV×Nat×Int) (obj:Bool) (s:List UInt8):Nat→Nat→List (List UInt8)→List JV→List (List UInt8)×List JV×Nat×Int
 | 0,p,ns,ks=>(ns,ks,p,3)
 | n+1,p,ns,ks =>
  if (nameO obj s p ns).2.2=0 then
   (if (f (nameO obj s p ns).2.1).2.2=0 then
    (if atB s (skP s (f (nameO obj s p ns).2.1).2.1) (endC obj) then ((nameO obj s p ns).1,ks++[(f (nameO obj s p ns).2.1).1],skP s (f (nameO obj s p ns).2.1).2.1+1,0)
    else if atB s (skP s (f (nameO obj s p ns).2.1).2.1) 44 then manyR f obj s n (skP s (f (nameO obj s p ns).2.1).2.1+1) (nameO obj s p ns).1 (ks++[(f (nameO obj s p ns).2.1).1])
    else ((nameO obj s p ns).1,ks++[(f (nameO obj s p ns).2.1).1],skP s (f (nameO obj s p ns).2.1).2.1,3))
   else ((nameO obj s p ns).1,ks++[(f (nameO obj s p ns).2.1).1],skP s (f (nameO obj s p ns).2.1).2.1,(f (nameO obj s p ns).2.1).2.2))
  else ((nameO obj s p ns).1,ks,skP s (nameO obj s p ns).2.1,(nameO obj s p ns).2.2)
def manyJ (k:Int) (x:List (List UInt8)×List JV×Nat×Int):JV×Nat×Int:=(.mk k false 0 [] x.1 x.2.1,x.2.2)
def listR (f:Nat→JV×Nat×Int) (big:Bool) (obj:Bool) (s:List UInt8) (p:Nat):JV×Nat×Int :=
 if atB s (skP s (p+1)) (endC obj) then (.mk (if obj then 6 else 5) false 0 [] [] [],skP s (p+1)+1,if big then 4 else 0)
 else if big then (.mk (if obj then 6 else 5) false 0 [] [] [],skP s (p+1),4)
 else manyJ (if obj then 6 else 5) (manyR f obj s (s.length+1) (skP s (p+1)) [] [])
def valR (s:List UInt8):Nat→Nat→JV×Nat×Int
 | k,p =>
  if s.length≤skP s p then (.nil,skP s p,3)
  else if s.getD (skP s p) 0=110 then (if wordB s (skP s p) [110,117,108,108] then (.mk 1 false 0 [] [] [],skP s p+4,0) else (.mk 1 false 0 [] [] [],skP s p,3))
  else if s.getD (skP s p) 0=116 then (if wordB s (skP s p) [116,114,117,101] then (.mk 2 true 0 [] [] [],skP s p+4,0) else (.mk 2 true 0 [] [] [],skP s p,3))
  else if s.getD (skP s p) 0=102 then (if wordB s (skP s p) [102,97,108,115,101] then (.mk 2 false 0 [] [] [],skP s p+5,0) else (.mk 2 false 0 [] [] [],skP s p,3))
  else if s.getD (skP s p) 0=34 then (.mk 4 false 0 (textR s (skP s p)).1 [] [],(textR s (skP s p)).2)
  else if s.getD (skP s p) 0=91 then listR (match k with | 0=>fun _=>(.nil,0,3) | k+1=>valR s k) (k==0) false s (skP s p)
  else if s.getD (skP s p) 0=123 then listR (match k with | 0=>fun _=>(.nil,0,3) | k+1=>valR s k) (k==0) true s (skP s p)
  else if s.getD (skP s p) 0=45∨digitB (s.getD (skP s p) 0)=true then (.mk 3 false (numR s (skP s p)).1 [] [] [],(numR s (skP s p)).2)
  else (.nil,skP s p,3)
def parseJ (s:List UInt8):JV×Int :=
 if (valR s 8 0).2.2=0 then (if skP s (valR s 8 0).2.1<s.length then (.nil,5) else ((valR s 8 0).1,0)) else (.nil,(valR s 8 0).2.2)
theorem skP_le (s:List UInt8) (p:Nat):p≤skP s p:=Nat.le_add_right _ _
theorem skP_len (s:List UInt8) (p:Nat) (h:p≤s.length):skP s p≤s.length:=by
 unfold skP
 have:=(List.takeWhile_sublist blankB (l:=s.drop p)).length_le
 rw [List.length_drop] at this;omega
theorem skP_yes {s:List UInt8} {p:Nat} (h:p<s.length) (hb:blankB (s.getD p 0)=true):skP s p=skP s (p+1):=by
 unfold skP
 rw [dropS s p h,List.takeWhile_cons,if_pos hb,List.length_cons];omega
theorem skP_no {s:List UInt8} {p:Nat} (h:p<s.length→blankB (s.getD p 0)=false):skP s p=p:=by
 unfold skP
 rcases Nat.lt_or_ge p s.length with hl | hl
 ·rw [dropS s p hl,List.takeWhile_cons,h hl];rfl
 ·rw [List.drop_eq_nil_of_le hl];rfl
theorem digP_le (s:List UInt8) (p:Nat):p≤digP s p:=Nat.le_add_right _ _
theorem digP_len (s:List UInt8) (p:Nat) (h:p≤s.length):digP s p≤s.length:=by
 unfold digP
 have:=(List.takeWhile_sublist digitB (l:=s.drop p)).length_le
 rw [List.length_drop] at this;omega
theorem at_drop {s:List UInt8} {p:Nat} {c:UInt8} {r:List UInt8} (h:s.drop p=c::r):p<s.length∧s.getD p 0=c∧s.drop (p+1)=r:=by
 have hl:p<s.length:=by
  rcases Nat.lt_or_ge p s.length with hl | hl
  ·exact hl
  ·rw [List.drop_eq_nil_of_le hl] at h;cases h
 rw [dropS s p hl] at h
 exact ⟨hl,(List.cons.inj h).1,(List.cons.inj h).2⟩
theorem drop_add {s:List UInt8} {p:Nat} {a r:List UInt8} (h:s.drop p=a++r):s.drop (p+a.length)=r:=by
 rw [← List.drop_drop,h,List.drop_left]
theorem atB_of {s:List UInt8} {p:Nat} {c d:UInt8} {r:List UInt8} (h:s.drop p=d::r):atB s p c=(d==c):=by
 obtain ⟨h1,h2,_⟩:=at_drop h
 unfold atB;rw [h2,decide_eq_true h1];rfl
theorem skP_of {s:List UInt8} {p:Nat} {d:UInt8} {r:List UInt8} (h:s.drop p=d::r) (hb:blankB d=false):skP s p=p :=
 skP_no fun _=>by rw [(at_drop h).2.1];exact hb
theorem esc_quot:∀ c:UInt8,(c=34∨c=92)∨c<32∨(qByte c=[c]∧¬ c<32∧c≠34∧c≠92):=fun c=>by
 unfold qByte
 by_cases h1:c=34
 ·exact .inl (.inl h1)
 by_cases h2:c=92
 ·exact .inl (.inr h2)
 by_cases h3:c<32
 ·exact .inr (.inl h3)
 ·refine .inr (.inr ⟨?_,h3,h1,h2⟩)
  simp [h1,h2,h3]
theorem small_hex:∀ c:UInt8,(!decide (c<32)||(qByte c==(if c=34∨c=92 then [92,c] else [92,117,48,48,hexT.getD (c.toNat / 16) 0,hexT.getD (c.toNat%16) 0])&&decide (smallI (hexT.getD (c.toNat / 16) 0)=((c.toNat / 16:Nat):Int))&&decide (smallI (hexT.getD (c.toNat%16) 0)=((c.toNat%16:Nat):Int))&&decide (c≠34)&&decide (c≠92)))=true:=byte_all _ kR
theorem escR_of {s:List UInt8} {p:Nat} {c:UInt8} {r:List UInt8} (h:s.drop p=qByte c++r) (hc:(c=34∨c=92)∨c<32):s.getD p 0=92∧p<s.length∧escR s (p+1)=(c,p+(qByte c).length,0):=by
 rcases hc with hc | hc
 ·have hq:qByte c=[92,c]:=by unfold qByte;rcases hc with rfl | rfl<;>rfl
  rw [hq] at h ⊢
  obtain ⟨h1,h2,h3⟩:=at_drop h
  obtain ⟨h4,h5,h6⟩:=at_drop h3
  refine ⟨h2,h1,?_⟩
  unfold escR
  rw [atB_of h3,atB_of h3,if_pos (by rcases hc with rfl | rfl<;>rfl),h5];rfl
 ·have hq:=small_hex c
  rw [decide_eq_true hc] at hq
  simp only [Bool.not_true,Bool.false_or,Bool.and_eq_true,beq_iff_eq,decide_eq_true_eq] at hq
  obtain ⟨⟨⟨⟨q1,q2⟩,q3⟩,q4⟩,q5⟩:=hq
  rw [if_neg (by simp [q4,q5])] at q1
  rw [q1] at h ⊢
  have hn:c.toNat<32:=hc
  obtain ⟨h1,h2,h3⟩:=at_drop h
  obtain ⟨g1,g2,g3⟩:=at_drop h3
  obtain ⟨_,f2,f3⟩:=at_drop g3
  obtain ⟨_,e2,e3⟩:=at_drop f3
  obtain ⟨_,d2,d3⟩:=at_drop e3
  obtain ⟨c1,c2,c3⟩:=at_drop d3
  refine ⟨h2,h1,?_⟩
  unfold escR
  rw [atB_of h3,atB_of h3,if_neg dC,if_pos (by unfold wordB;rw [h3];rfl),if_neg oM]
  rw [show p+1+3=p+1+1+1+1 from rfl,show p+1+4=p+1+1+1+1+1 from rfl,d2,c2,q2,q3,if_neg oM]
  rw [show (((c.toNat / 16:Nat):Int)*16+((c.toNat%16:Nat):Int)).toNat=c.toNat by omega]
  simp
theorem qByte_pos (c:UInt8):1≤(qByte c).length:=by
 unfold qByte;split
 ·simp
 ·split<;>simp
theorem txtR_of {s:List UInt8} {r:List UInt8}:∀ (t:List UInt8) (n p:Nat) (b:List UInt8),s.drop p=t.flatMap qByte++34::r→(t.flatMap qByte).length<n→txtR s n p b=(b++t,p+(t.flatMap qByte).length+1,0)
 | _,0,p,b,h,hn=>by omega
 | [],n+1,p,b,h,hn=>by
  obtain ⟨h1,h2,h3⟩:=at_drop h
  rw [txtR,h2,if_neg sO,if_pos rfl];simp
 | c::t,n+1,p,b,h,hn=>by
  have hp:=qByte_pos c
  rw [List.flatMap_cons,List.append_assoc] at h
  rw [List.flatMap_cons,List.length_append] at hn
  have hr:=drop_add h
  have fin:∀ n',(t.flatMap qByte).length<n'→txtR s n' (p+(qByte c).length) (b++[c])=(b++(c::t),p+((c::t).flatMap qByte).length+1,0):=fun n' hn'=>by
   rw [txtR_of t n' (p+(qByte c).length) (b++[c]) hr hn',List.flatMap_cons,List.length_append]
   simp [Nat.add_assoc]
  rw [txtR]
  rcases esc_quot c with hc | hc | ⟨q1,q2,q3,q4⟩
  ·obtain ⟨h1,h2,h3⟩:=escR_of h (.inl hc)
   rw [h1,if_neg sO,if_neg dC,if_pos rfl,h3,if_pos rfl]
   exact fin n oM
  ·obtain ⟨h1,h2,h3⟩:=escR_of h (.inr hc)
   rw [h1,if_neg sO,if_neg dC,if_pos rfl,h3,if_pos rfl]
   exact fin n oM
  ·rw [q1] at h fin
   obtain ⟨h1,h2,h3⟩:=at_drop h
   rw [h2,if_neg (by simp [q2];omega),if_neg q3,if_neg q4]
   exact fin n oM
theorem textR_of {s:List UInt8} {p:Nat} {t r:List UInt8} (hv:validT t=true) (h:s.drop p=quotedT t++r):textR s p=(t,p+(quotedT t).length,0):=by
 have h':s.drop p=34::(t.flatMap qByte++34::r):=by rw [h];unfold quotedT;simp
 obtain ⟨h1,h2,h3⟩:=at_drop h'
 have hl:(t.flatMap qByte).length<s.length+1:=by
  have:=congrArg List.length h3
  simp at this;simp;omega
 unfold textR
 rw [skP_of h' dC,atB_of h',if_pos dC,txtR_of t _ _ [] h3 hl]
 unfold txtE quotedT
 simp [hv];omega
theorem accN_le:∀ (t:List UInt8) (n:Nat),t.all digitB=true→nvS t n≤9007199254740992→accN t n=nvS t n
 | [],n,_,_=>rfl
 | c::t,n,h,hn=>by
  rw [nvS_cons] at hn ⊢
  have:=nvS_ge t (n*10+(c.toNat-48))
  rw [accN,if_pos oM]
  exact accN_le t _ (by simp at h;simpa using h.2) hn
theorem takeW_app (d r:List UInt8) (hd:d.all digitB=true) (hr:digitB (r.headD 0)=false):(d++r).takeWhile digitB=d:=by
 induction d with
 | nil=>cases r with
  | nil=>rfl
  | cons c r=>simp only [List.nil_append,List.takeWhile_cons]; rw [show digitB c=false from hr]; rfl
 | cons c d ih =>
  simp only [List.all_cons,Bool.and_eq_true] at hd
  rw [List.cons_append,List.takeWhile_cons,if_pos hd.1,ih hd.2]
theorem numR_of {s:List UInt8} {p:Nat} {n:Int} {r:List UInt8} (h1 : -9007199254740992≤n) (h2:n≤9007199254740992) (h:s.drop p=Lib.itoa n++r) (hr:digitB (r.headD 0)=false) :
  numR s p=(n,p+(Lib.itoa n).length,0)∧p<s.length∧(s.getD p 0=45∨digitB (s.getD p 0)=true):=by
 by_cases hn:n<0
 ·obtain ⟨m,rfl⟩:∃ m:Nat,n = -(m:Int):=⟨n.natAbs,by omega⟩
  have hi:Lib.itoa (-(m:Int))=45::Lib.decDigits m:=Lib.itoa_neg m oM
  rw [hi] at h
  obtain ⟨g1,g2,g3⟩:=at_drop h
  have hs:sgP s p=p+1:=by unfold sgP;rw [atB_of h];rfl
  have ht:(s.drop (p+1)).takeWhile digitB=Lib.decDigits m:=by rw [g3];exact takeW_app _ _ (dec_all m) hr
  have ha:accN (Lib.decDigits m) 0=m:=by rw [accN_le _ _ (dec_all m) (by have:=nv_dec m;unfold nv at this;omega)];exact nv_dec m
  have hv:numV s p = -(m:Int):=by unfold numV;rw [g2,if_pos rfl,hs,ht,ha]
  have hd:digP s (p+1)=p+(Lib.itoa (-(m:Int))).length:=by unfold digP;rw [ht,hi,List.length_cons];omega
  refine ⟨?_,g1,.inl g2⟩
  unfold numR numOk
  rw [hv,hs,hd,decide_eq_true h2,decide_eq_true h1,show p+(Lib.itoa (-(m:Int))).length-p=(Lib.itoa (-(m:Int))).length by omega,h,← hi,List.take_left]
  simp
 ·obtain ⟨m,rfl⟩:∃ m:Nat,n=(m:Int):=⟨n.natAbs,by omega⟩
  have hi:Lib.itoa (m:Int)=Lib.decDigits m:=Lib.itoa_nonneg m
  rw [hi] at h
  obtain ⟨c,d,hcd⟩:∃ c d,Lib.decDigits m=c::d:=by
   cases hq:Lib.decDigits m with
   | nil=>exact (dec_ne m hq).elim
   | cons c d=>exact ⟨c,d,rfl⟩
  have hdc:digitB c=true:=by have:=dec_all m;rw [hcd] at this;simp at this;exact this.1
  have h45:c≠45:=fun e=>by rw [e] at hdc;revert hdc;decide
  have h':=h
  rw [hcd,List.cons_append] at h'
  obtain ⟨g1,g2,g3⟩:=at_drop h'
  have hs:sgP s p=p:=by unfold sgP;rw [atB_of h',if_neg (by simpa using h45)]
  have ht:(s.drop p).takeWhile digitB=Lib.decDigits m:=by rw [h];exact takeW_app _ _ (dec_all m) hr
  have ha:accN (Lib.decDigits m) 0=m:=by rw [accN_le _ _ (dec_all m) (by have:=nv_dec m;unfold nv at this;omega)];exact nv_dec m
  have hv:numV s p=(m:Int):=by unfold numV;rw [g2,if_neg h45,hs,ht,ha]
  have hd:digP s p=p+(Lib.itoa (m:Int)).length:=by unfold digP;rw [ht,hi]
  refine ⟨?_,g1,.inr (by rw [g2];exact hdc)⟩
  unfold numR numOk
  rw [hv,hs,hd,decide_eq_true h2,decide_eq_true h1,show p+(Lib.itoa (m:Int)).length-p=(Lib.itoa (m:Int)).length by omega,h,← hi,List.take_left]
  simp
end Go.Proofs.Tw
end

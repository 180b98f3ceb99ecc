/- Own texts for this claim: Tel, Hp0, Hp1, Hp2, Hp3, Hp4, Hp5, Ck5, Ck6, Ck7, Hp6, Hp7, Hp8, Hp9, Hp10, Hp11, Hp12, Smal, Hp13, Hp14, Hp15, Jn, Hp17, Hp20, Rp1, Upr, Pj4, Pj5, Pj6, Sc. -/
import Derived.Test.YtgnhhialddlknaaGreatDoorGuardApartCardP3
import Derived.Test.YtgnhhialddlknaaGreatDoorGuardApartCardP6
import Derived.Test.YtgnhhialddlknaaGreatDoorGuardApartCardP7
set_option linter.all false
section
open Go Go.Sv Go.RowKit
namespace Go.Proofs.Tw
attribute [local irreducible] Wp FinQ resV Ent Pur Go.Sv.Fn Sat0
set_option maxRecDepth 100000
set_option maxHeartbeats 4000000
variable {G:Nat→Option (List Cell)} [Back G]
def mayM (m:MT):Bool:=bif bif fieldedT m then decide ((m.body.length:Int)≤4096) else false then decide (((aheadT m).length:Int)≤2048) else false
structure FitM (m:MT):Prop where
 hn:m.head.length<4611686018427387904
 hs:∀ f∈m.head,f.name.length≤140737488355328∧f.value.length≤140737488355328
 hb:m.body.length≤140737488355328
 hA:(aheadT m).length≤100000000000000
theorem fielded_f (m:MT) (h:FitM m):Pur Tryz.prog G 258 [.agg (encM m)] [.c (.bool (fieldedT m))]:=fielded_ok m h.hn h.hs
theorem ahead_f (hp:HasPow G) (m:MT) (h:FitM m):Pur Tryz.prog G 223 [.agg (encM m)] [.c (.str (aheadT m))]:=ahead_ok hp m h.hn h.hb h.hA
theorem mayM_ok (hp:HasPow G) (m:MT) (h:FitM m):Pur Tryz.prog G 220 [.agg (encM m)] [.c (.bool (mayM m))]:=by
 refine zp Tryz.func220 ?_
 have c1:=fielded_f (G:=G) m h
 have c2:=ahead_f hp m h
 refine z0 [(1,{cs:=[(1,pc c1),(10,pc c2)]})] [] ?_
 exact zr
theorem printM_ok (hp:HasPow G) (m:MT) (h:FitM m):Pur Tryz.prog G 177 [.agg (encM m)] [.c (.str (aheadT m++m.body))]:=by
 refine zp Tryz.func177 ?_
 have c2:=ahead_f hp m h
 have h1:=h.hA
 have h2:=h.hb
 refine zg [(1,{cs:=[(1,pc c2)]})] [] [(aheadT m).length+m.body.length≤9223372036854775807] (oN oM) ?_
 exact zr
def statedT (n:Int):Bool:=bif decide (n≥100) then decide (n≤599) else false
theorem stated_ok (n:Int):Pur Tryz.prog G 136 [.c (.int .i64 n)] [.c (.bool (statedT n))]:=by
 refine zp Tryz.func136 ?_
 refine z0 [] [] ?_
 exact zr
def reasonT (n:Int):List UInt8:=if n=200 then [79,75] else if n=302 then [70,111,117,110,100] else if n=400 then [66,97,100,32,82,101,113,117,101,115,116] else if n=401 then [85,110,97,117,116,104,111,114,105,122,101,100] else if n=403 then [70,111,114,98,105,100,100,101,110] else if n=404 then [78,111,116,32,70,111,117,110,100] else if n=405 then [77,101,116,104,111,100,32,78,111,116,32,65,108,108,111,119,101,100] else if n=413 then [67,111,110,116,101,110,116,32,84,111,111,32,76,97,114,103,101] else if n=503 then [83,101,114,118,105,99,101,32,85,110,97,118,97,105,108,97,98,108,101] else [79,116,104,101,114]
theorem reason_ok (n:Int):Pur Tryz.prog G 222 [.c (.int .i64 n)] [.c (.str (reasonT n))]:=by
 refine zp Tryz.func222 ?_
 refine z0 [] [] ?_
 refine zc (n==(200:Int)) (fun h0 => ?_) (fun h0 => ?_)
 ·have g0:=eq_of_beq h0
  refine z0 [] [] ?_
  exact zS [.c (.str [(79:UInt8),75])] (by simp [reasonT, *];done)
 ·have g0:=ne_of_beq_false h0
  refine z0 [] [] ?_
  refine zc (n==(302:Int)) (fun h1 => ?_) (fun h1 => ?_)
  ·have g1:=eq_of_beq h1
   refine z0 [] [] ?_
   exact zS [.c (.str [(70:UInt8),111,117,110,100])] (by simp [reasonT, *];done)
  ·have g1:=ne_of_beq_false h1
   refine z0 [] [] ?_
   refine zc (n==(400:Int)) (fun h2 => ?_) (fun h2 => ?_)
   ·have g2:=eq_of_beq h2
    refine z0 [] [] ?_
    exact zS [.c (.str [(66:UInt8),97,100,32,82,101,113,117,101,115,116])] (by simp [reasonT, *];done)
   ·have g2:=ne_of_beq_false h2
    refine z0 [] [] ?_
    refine zc (n==(401:Int)) (fun h3 => ?_) (fun h3 => ?_)
    ·have g3:=eq_of_beq h3
     refine z0 [] [] ?_
     exact zS [.c (.str [(85:UInt8),110,97,117,116,104,111,114,105,122,101,100])] (by simp [reasonT, *];done)
    ·have g3:=ne_of_beq_false h3
     refine z0 [] [] ?_
     refine zc (n==(403:Int)) (fun h4 => ?_) (fun h4 => ?_)
     ·have g4:=eq_of_beq h4
      refine z0 [] [] ?_
      exact zS [.c (.str [(70:UInt8),111,114,98,105,100,100,101,110])] (by simp [reasonT, *];done)
     ·have g4:=ne_of_beq_false h4
      refine z0 [] [] ?_
      refine zc (n==(404:Int)) (fun h5 => ?_) (fun h5 => ?_)
      ·have g5:=eq_of_beq h5
       refine z0 [] [] ?_
       exact zS [.c (.str [(78:UInt8),111,116,32,70,111,117,110,100])] (by simp [reasonT, *];done)
      ·have g5:=ne_of_beq_false h5
       refine z0 [] [] ?_
       refine zc (n==(405:Int)) (fun h6 => ?_) (fun h6 => ?_)
       ·have g6:=eq_of_beq h6
        refine z0 [] [] ?_
        exact zS [.c (.str [(77:UInt8),101,116,104,111,100,32,78,111,116,32,65,108,108,111,119,101,100])] (by simp [reasonT, *];done)
       ·have g6:=ne_of_beq_false h6
        refine z0 [] [] ?_
        refine zc (n==(413:Int)) (fun h7 => ?_) (fun h7 => ?_)
        ·have g7:=eq_of_beq h7
         refine z0 [] [] ?_
         exact zS [.c (.str [(67:UInt8),111,110,116,101,110,116,32,84,111,111,32,76,97,114,103,101])] (by simp [reasonT, *];done)
        ·have g7:=ne_of_beq_false h7
         refine z0 [] [] ?_
         refine zc (n==(503:Int)) (fun h8 => ?_) (fun h8 => ?_)
         ·have g8:=eq_of_beq h8
          refine z0 [] [] ?_
          exact zS [.c (.str [(83:UInt8),101,114,118,105,99,101,32,85,110,97,118,97,105,108,97,98,108,101])] (by simp [reasonT, *];done)
         ·have g8:=ne_of_beq_false h8
          refine z0 [] [] ?_
          exact zS [.c (.str [(79:UInt8),116,104,101,114])] (by simp [reasonT, *];done)
theorem reason_len (n:Int):(reasonT n).length≤30:=by
 unfold reasonT
 repeat' split
 all_goals decide
def toldM (r:RT):MT:=⟨[72,84,84,80,47,49,46,49,32]++Lib.itoa r.status++[32]++reasonT r.status,r.head,r.body⟩
theorem itoa_len (n:Int) (h0:0≤n) (h1:n≤1000):(Lib.itoa n).length≤1001:=by
 obtain ⟨k,rfl⟩:=Int.eq_ofNat_of_zero_le h0
 exact Nat.le_trans (dec_len k) oM
theorem told_ok (hp:HasPow G) (r:RT) (h0:0≤r.status) (h1:r.status≤1000):Pur Tryz.prog G 176 [.agg (encT r)] [.agg (encM (toldM r)++encT r)]:=by
 refine zp Tryz.func176 ?_
 have h3:=itoa_len r.status h0 h1
 have h4:=reason_len r.status
 refine zg [(1,{cs:=[(2,pc (itoa_p hp r.status oM oM)),(7,pc (reason_ok (G:=G) r.status))]})] [] [9+(Lib.itoa r.status).length≤9223372036854775807,([(72:UInt8),84,84,80,47,49,46,49,32]++Lib.itoa r.status).length+(1:Nat)≤(9223372036854775807:Nat),([(72:UInt8),84,84,80,47,49,46,49,32]++Lib.itoa r.status++[(32:UInt8)]).length+(reasonT r.status).length≤(9223372036854775807:Nat)] ⟨oM,sO,(show ([(72:UInt8),84,84,80,47,49,46,49,32]++Lib.itoa r.status++[(32:UInt8)]).length+(reasonT r.status).length≤(9223372036854775807:Nat) from sO)⟩ ?_
 exact zr
def mayTell (r:RT):Bool:=bif statedT r.status then mayM (toldM r) else false
theorem mayTell_ok (hp:HasPow G) (r:RT) (h0:0≤r.status) (h1:r.status≤1000) (h:FitM (toldM r)):Pur Tryz.prog G 175 [.agg (encT r)] [.c (.bool (mayTell r))]:=by
 refine zp Tryz.func175 ?_
 have c:=mayM_ok hp (toldM r) h
 refine z0 [(1,{cs:=[(2,pc (stated_ok (G:=G) r.status)),(5,pc (told_ok hp r aS aS)),(7,pc c)]})] [] ?_
 exact zr
def printTell (r:RT):List UInt8:=if mayTell r then aheadT (toldM r)++r.body else []
theorem printTell_ok (hp:HasPow G) (r:RT) (h0:0≤r.status) (h1:r.status≤1000) (h:FitM (toldM r)):Pur Tryz.prog G 130 [.agg (encT r)] [.c (.str (printTell r))]:=by
 refine zp Tryz.func130 ?_
 have c1:=mayTell_ok hp r h0 h1 h
 have c:=printM_ok hp (toldM r) h
 refine z0 [(1,{cs:=[(1,pc c1)]})] [] ?_
 refine zc (!mayTell r) (fun h0 => ?_) (fun h0 => ?_)
 ·have g0:=h0
  simp at g0
  refine z0 [] [] ?_
  exact zS [.c (.str [])] (by simp [printTell, *];done)
 ·have g0:=h0
  simp at g0
  refine z0 [(3,{cs:=[(1,pc (told_ok hp r aS aS)),(3,pc c)]})] [] ?_
  exact zS [.c (.str (aheadT (toldM r)++(toldM r).body))] (by rw [printTell,if_pos (show mayTell r=true from by simpa using h0)];rfl)
theorem CEqs.at {l l':List Cell} (h:CEqs l l'):∀ (j:Nat) (y:Cell),l'[j]?=some y→∃ x,l[j]?=some x∧CEq x y:=by
 induction h with
 | nil=>intro j y hj; simp at hj
 | cons h1 h2 ih =>
  intro j y hj
  cases j with
  | zero=>simp at hj; subst hj; exact ⟨_,by simp,h1⟩
  | succ j=>simp at hj; obtain ⟨x,hx,hc⟩:=ih j y hj; exact ⟨x,by simpa using hx,hc⟩
theorem BlkEqv.boxOf {e:TypeId} {cs cs':List Cell} (h:CEqs cs cs') (hf:flats cs'=true):BlkEqv (.box e cs) (.box e cs'):=by
 refine ⟨fun D ρ id w hs => ?_,fun S _=>flats_inS hf S⟩
 obtain ⟨h0,vs,fz,h1,h2,h3,h4⟩:=hs
 refine ⟨by rw [← h.len];exact h0,vs,fz,h1,by rw [h2,h.len],h3,fun j y hj => ?_⟩
 obtain ⟨x,hx,hc⟩:=h.at j y hj
 obtain ⟨u,hu,hd⟩:=h4 j x hx
 exact ⟨u,hu,hc _ _ _ hd⟩
structure QT where
 (method target:List UInt8) (head:List FT) (body:List UInt8)
def QT.nil:QT:=⟨[],[],[],[]⟩
def encQ (r:QT):List Cell:=[.str r.method,.str r.target,encH r.head,.str r.body]
def clN:List UInt8:=[99,111,110,116,101,110,116,45,108,101,110,103,116,104]
def notCl (f:FT):Bool := !(f.name==clN)
def tgB (c:UInt8):Bool:=33≤c&&c≤126
def methT (s:List UInt8):Bool:=s.all greatB&&(decide (1≤s.length)&&decide (s.length≤16))
def targT (s:List UInt8):Bool:=s.all tgB&&(decide (1≤s.length)&&decide (s.length≤1024))
def linedT (m t:List UInt8):Bool:=methT m&&targT t
def hdC (s:List UInt8):List UInt8×List UInt8×Bool:=Lib.cut s [13,10,13,10]
def bigH (s:List UInt8):Bool:=bif (hdC s).2.2 then decide (((hdC s).1.length:Int)+4>2048) else decide ((s.length:Int)>2048)
def linesH (s:List UInt8):List (List UInt8):=Lib.split (hdC s).1 [13,10]
def splitH (s:List UInt8):Int:=if bigH s then 4 else if (hdC s).2.2=false then 3 else if (linesH s).length>25 then 4 else 0
def lineF (p:List UInt8):FT:=⟨foldT (Lib.cut p [58,32]).1,(Lib.cut p [58,32]).2.1⟩
def okL (p:List UInt8):Bool:=(Lib.cut p [58,32]).2.2&&(tokenT (Lib.cut p [58,32]).1&&(Lib.cut p [58,32]).2.1.all seenB)
def okA (acc:List FT) (p:List UInt8):Bool:=okL p && !(fGet acc (lineF p).name).isSome
def fieldsA:List (List UInt8)→List FT→List FT
 | [],acc=>acc
 | p::r,acc=>if okA acc p then fieldsA r (acc++[lineF p]) else acc
def fieldsO:List (List UInt8)→List FT→Bool
 | [],_=>true
 | p::r,acc=>if okA acc p then fieldsO r (acc++[lineF p]) else false
def fieldsL (s:List UInt8):List (List UInt8):=(linesH s).drop 1
def firstH (s:List UInt8):List UInt8:=(linesH s).getD 0 []
def szE (z:List UInt8) (d:Bool) (b:List UInt8):Int:=if d then (if numK 9 z=false then 3 else if nv z>4096 then 4 else if nv z=b.length then 0 else 3) else if b=[] then 0 else 3
def bodyE (l:List FT) (b:List UInt8):Int:=szE ((fGet l clN).getD []) (fGet l clN).isSome b
def askM (s:List UInt8):List UInt8:=(Lib.cut s [32]).1
def askT (s:List UInt8):List UInt8:=Lib.trimSuffix (Lib.cut s [32]).2.1 [32,72,84,84,80,47,49,46,49]
def askB (s:List UInt8):Bool:=Lib.hasSuffix (Lib.cut s [32]).2.1 [32,72,84,84,80,47,49,46,49]&&linedT (askM s) (askT s)
def verS:List UInt8:=[72,84,84,80,47,49,46,49,32]
def tellC (s:List UInt8):List UInt8×List UInt8×Bool:=Lib.cut (Lib.trimPrefix s verS) [32]
def tellN (s:List UInt8):Int:=if numK 3 (tellC s).1 then ((nv (tellC s).1:Nat):Int) else 0
def tellB (s:List UInt8):Bool:=Lib.hasPrefix s verS&&((tellC s).2.2&&(numK 3 (tellC s).1&&(statedT (tellN s)&&(tellC s).2.1.all seenB)))
def readH (line:List UInt8→Bool) (s:List UInt8):List FT×Int :=
 if splitH s≠0 then ([],splitH s) else if line (firstH s)=false then ([],3) else if fieldsO (fieldsL s) []=false then ([],3) else
  if bodyE (fieldsA (fieldsL s) []) (hdC s).2.1=0 then ((fieldsA (fieldsL s) []).filter notCl,0) else ([],bodyE (fieldsA (fieldsL s) []) (hdC s).2.1)
def parseQ (s:List UInt8):QT×Int:=if (readH askB s).2=0 then (⟨askM (firstH s),askT (firstH s),(readH askB s).1,(hdC s).2.1⟩,0) else (.nil,(readH askB s).2)
def nilR:RT:=⟨0,[],[]⟩
def parseR (s:List UInt8):RT×Int:=if (readH tellB s).2=0 then (⟨tellN (firstH s),(readH tellB s).1,(hdC s).2.1⟩,0) else (nilR,(readH tellB s).2)
theorem splitK_nil (sep:List UInt8) (k:Nat) (s:List UInt8):Lib.splitK sep 0 k s≠[]:=by
 cases k with
 | zero=>simp [Lib.splitK]
 | succ k=>unfold Lib.splitK; split<;>simp
theorem lib_CutPrefix (s p:List UInt8):Pur Tryz.prog G 133 [.c (.str s),.c (.str p)] [.c (.str (Lib.trimPrefix s p)),.c (.bool (Lib.hasPrefix s p))]:=by
 refine Pur.of_below rfl ?_
 intro D ρ w vs h1 _ _ _
 obtain ⟨u,v,rfl,hu,hv⟩:=h1.two
 have hu:u = .string ⟨s.toArray⟩:=hu
 have hv:v = .string ⟨p.toArray⟩:=hv
 subst hu hv
 refine (Go.Proofs.Tryz.strings_CutPrefix ⟨s.toArray⟩ ⟨p.toArray⟩ w).mono ?_
 rintro e w' ⟨rfl,rfl⟩
 refine ⟨_,rfl,⟨_,rfl,rfl,fun j x hj => ?_⟩,BelowD.refl _ _⟩
 match j,hj with
 | 0,hj=>simp at hj; subst hj; exact ⟨_,rfl,rfl⟩
 | 1,hj=>simp at hj; subst hj; exact ⟨_,rfl,rfl⟩
 | j+2,hj=>simp at hj
theorem inTarget_ok (c:UInt8):Pur Tryz.prog G 246 [.c (.int .u8 (c.toNat:Int))] [.c (.bool (tgB c))]:=by
 refine zp Tryz.func246 ?_
 refine z0 [] [] ?_
 exact zS [.c (.bool (bif decide ((↑c.toNat:Int)≥(33:Int)) then decide ((↑c.toNat:Int)≤(126:Int)) else false))] (by revert c;refine by_all _ _ ?_;kernel_rfl)
theorem All_target (s:List UInt8) (hl:s.length<4611686018427387904):Pur Tryz.prog G 183 [.c (.str s),.c (.clo 246 0 (fun _=>none) (fun _ _ => .nilif))] [.c (.bool (s.all tgB))]:=by
 refine zp Tryz.func183 ?_
 refine z0 [] [] ?_
 refine zl (fun (k:Nat)=>⟨[(0,.v (.c (.str s))),(1,.v (.c (.clo 246 (0:Nat) (fun _=>none) fun _ _ => .nilif))),(7,.v (.c (.int .i64 (↑s.length:Int)))),(8,.v (.c (.int .i64 (k:Int))))],[],32⟩) (fun k=>k≤s.length∧s.all tgB=(s.drop k).all tgB) (fun k=>s.length-k) 0 ⟨Nat.zero_le _,rfl⟩ ?_
 intro k L ⟨hk,hq⟩ again
 rcases Nat.lt_or_ge k s.length with hlt | hge
 ·rw [dropS s k hlt,List.all_cons] at hq
  refine zg [(4,{cs:=[(4,pc (inTarget_ok (s.getD k (0:UInt8))))]})] [true] [decide ((k:Int)<(s.length:Int))=true,(0:Int)≤(k:Int)∧(k:Int)<(s.length:Int)] ⟨sO,(show (0:Int)≤(↑k:Int)∧(↑k:Int)<(↑s.length:Int) from oM)⟩ ?_
  refine zc (!tgB (s.getD k (0:UInt8))) (fun h0 => ?_) (fun h0 => ?_)
  ·have g0:=h0
   simp at g0
   refine z0 [] [] ?_
   exact zS [.c (.bool false)] (by simp_all;done)
  ·have g0:=h0
   simp at g0
   refine zg [] [] [inR .i64 ((k:Int)+1)] (i6) ?_
   exact za [] (again _ (k+1) (⟨aS,(by simp_all<;>omega)⟩) oM)
 ·obtain rfl:k=s.length:=by omega
  rw [List.drop_length] at hq
  refine zg [] [false] [decide ((s.length:Int)<(s.length:Int))=false] ((show decide ((↑s.length:Int)<(↑s.length:Int))=false from (by simp;done))) ?_
  exact zS [.c (.bool true)] (by rw [hq];rfl)
theorem lined_b (m t:List UInt8):(bif bif bif bif bif !(m==[]) then decide ((m.length:Int)≤16) else false then m.all greatB else false then !(t==[]) else false then decide ((t.length:Int)≤1024) else false then t.all tgB else false)=linedT m t:=by
 unfold linedT methT targT
 have h1:∀ s:List UInt8,(!(s==[]))=decide (1≤s.length):=fun s=>by cases s<;>simp
 rw [h1,h1,show decide ((m.length:Int)≤16)=decide (m.length≤16) from decide_eq_decide.2 oM,show decide ((t.length:Int)≤1024)=decide (t.length≤1024) from decide_eq_decide.2 oM]
 cases decide (1≤m.length)<;>cases decide (m.length≤16)<;>cases m.all greatB<;>cases decide (1≤t.length)<;>cases decide (t.length≤1024)<;>cases t.all tgB<;>rfl
theorem lined_ok (m t:List UInt8) (h1:m.length<4611686018427387904) (h2:t.length<4611686018427387904):Pur Tryz.prog G 202 [.c (.str m),.c (.str t)] [.c (.bool (linedT m t))]:=by
 refine zp Tryz.func202 ?_
 rw [← lined_b]
 have c1:=All_great (G:=G) m h1
 have c2:=All_target (G:=G) t h2
 refine z0 [(1,{cs:=[(9,pc c1),(22,pc c2)]})] [] ?_
 exact zr
theorem askL_ok (hL:HasLen G) (s m t:List UInt8) (hl:s.length<1000000000):FnB Tryz.prog G 200 [.box 59 [.str m,.str t,.nilsl,.str []]] [.c (.str s),.c (.ptr 0 0)] [.c (.bool (askB s))] [(0,.box 59 [.str (askM s),.str (askT s),.nilsl,.str []])]:=by
 refine zf Tryz.func200 ?_
 obtain ⟨mx,hG⟩:=hL
 have c1:=lib_Cut hG s [32] oM
 have hc:=cut_len s [32]
 have c2:=lib_CutSuffix (G:=G) (Lib.cut s [32]).2.1 [32,72,84,84,80,47,49,46,49] oM
 have ht:(Lib.trimSuffix (Lib.cut s [32]).2.1 [32,72,84,84,80,47,49,46,49]).length≤s.length:=by
  unfold Lib.trimSuffix
  split
  ·rw [List.length_take];omega
  ·omega
 have c3:=lined_ok (G:=G) (askM s) (askT s) (by unfold askM;omega) (by unfold askT;omega)
 unfold askB
 have e:(Lib.hasSuffix (Lib.cut s [32]).2.1 [32,72,84,84,80,47,49,46,49]&&linedT (askM s) (askT s))=(bif Lib.hasSuffix (Lib.cut s [32]).2.1 [32,72,84,84,80,47,49,46,49] then linedT (askM s) (askT s) else false):=by cases Lib.hasSuffix (Lib.cut s [32]).2.1 [32,72,84,84,80,47,49,46,49]<;>rfl
 rw [e]
 unfold askM askT at c3 ⊢
 refine z0 [(1,{cs:=[(1,pc c1)]}),(2,{cs:=[(1,pc c2)]}),(4,{cs:=[(4,pc c3)]})] [] ?_
 exact zb []
theorem tellL_ok (hL:HasLen G) (s:List UInt8) (n:Int) (hl:s.length<1000000000):FnB Tryz.prog G 132 [.box 69 [.int .i64 n,.nilsl,.str []]] [.c (.str s),.c (.ptr 0 0)] [.c (.bool (tellB s))] [(0,.box 69 [.int .i64 (tellN s),.nilsl,.str []])]:=by
 refine zf Tryz.func132 ?_
 obtain ⟨mx,hG⟩:=hL
 have c1:=lib_CutPrefix (G:=G) s verS
 have hp:(Lib.trimPrefix s verS).length≤s.length:=by
  unfold Lib.trimPrefix
  split
  ·rw [List.length_drop];omega
  ·omega
 have c2:Pur Tryz.prog G 134 [.c (.str (Lib.trimPrefix s verS)),.c (.str [32])] [.c (.str (tellC s).1),.c (.str (tellC s).2.1),.c (.bool (tellC s).2.2)]:=lib_Cut hG _ [32] oM
 have hc:=cut_len (Lib.trimPrefix s verS) [32]
 have hc1:(tellC s).1.length<1000000000:=by unfold tellC;omega
 have hc2:(tellC s).2.1.length<1000000000:=by unfold tellC;omega
 have c3:Pur Tryz.prog G 135 [.c (.str (tellC s).1),.c (.int .i64 3)] [.c (.int .i64 (tellN s)),.c (.bool (numK 3 (tellC s).1))]:=by
  unfold tellN
  cases hk:numK 3 (tellC s).1 with
  | true=>rw [if_pos rfl]; exact numK_yes (K:=3) dC _ hk
  | false=>rw [if_neg dC]; exact numK_no (K:=3) _ hc1 hk
 have c4:=stated_ok (G:=G) (tellN s)
 have c5:=seen_ok (G:=G) (tellC s).2.1 oM
 have e:tellB s=(bif bif bif bif Lib.hasPrefix s verS then (tellC s).2.2 else false then numK 3 (tellC s).1 else false then statedT (tellN s) else false then (tellC s).2.1.all seenB else false):=by
  unfold tellB
  cases Lib.hasPrefix s verS<;>cases (tellC s).2.2<;>cases numK 3 (tellC s).1<;>cases statedT (tellN s)<;>rfl
 rw [e]
 generalize tellN s=N at c3 c4 ⊢
 generalize tellC s=C at c2 c3 c5 ⊢
 refine z0 [(1,{cs:=[(1,pc c1)]}),(2,{cs:=[(1,pc c2)]}),(3,{cs:=[(1,pc c3)]}),(5,{cs:=[(9,pc c4),(13,pc c5)]})] [] ?_
 exact zb []
def rdB (f:List UInt8) (h:Cell) (b:List UInt8) (l:Cell) (z:List UInt8) (d:Bool):Blk := .box 184 [.str f,h,.str b,l,.str z,.bool d]
def rdZ:Blk:=rdB [] .nilsl [] .nilsl [] false
def encL (l:List (List UInt8)):Cell := .sl 1 l.length (strsF l)
theorem rdz_eqv (b:List UInt8) (l:List (List UInt8)) (f:List UInt8):BlkEqv (rdB f .nilsl b (encL l) [] false) (rdB f (encH []) b (encL l) [] false) :=
 BlkEqv.boxOf (.cons CEq.rfl' (.cons CEq.nil (.cons CEq.rfl' (.cons CEq.rfl' (.cons CEq.rfl' (.cons CEq.rfl' .nil)))))) kR
theorem rdz_eqv0:BlkEqv rdZ (rdB [] (encH []) [] (encL []) [] false) :=
 BlkEqv.boxOf (.cons CEq.rfl' (.cons CEq.nil (.cons CEq.rfl' (.cons CEq.nil (.cons CEq.rfl' (.cons CEq.rfl' .nil)))))) kR
theorem rcut_big (hL:HasLen G) (s:List UInt8) (hl:s.length<1000000000) (h:bigH s=true):FnB Tryz.prog G 178 [rdZ] [.c (.ptr 0 0),.c (.str s)] [.c (.int .i64 4)] [(0,rdB [] (encH []) [] (encL []) [] false)]:=by
 refine zf Tryz.func178 ?_
 obtain ⟨mx,hG⟩:=hL
 have c1:Pur Tryz.prog G 134 [.c (.str s),.c (.str [13,10,13,10])] [.c (.str (hdC s).1),.c (.str (hdC s).2.1),.c (.bool (hdC s).2.2)]:=lib_Cut hG s [13,10,13,10] oM
 have hc:(hdC s).1.length≤s.length:=(cut_len s [13,10,13,10]).1
 unfold bigH at h
 generalize hdC s=C at c1 h hc
 cases hi:C.2.2 with
 | true =>
  rw [hi] at c1 h
  have ht:(bif true then decide ((C.1.length:Int)+4>2048) else false)=true:=h
  have hr:true=true→inR IntKind.i64 ((C.1.length:Int)+4):=fun _=>i6
  refine zg [(1,{cs:=[(1,pc c1)]})] [true,true] [true=true→inR .i64 ((C.1.length:Int)+(4:Int)),(bif true then decide ((C.1.length:Int)+(4:Int)>(2048:Int)) else false)=true,(bif true then decide ((C.1.length:Int)+(4:Int)>(2048:Int)) else false)=true] ⟨aS,aS,(show (bif true then decide ((↑C.1.length:Int)+(4:Int)>(2048:Int)) else false)=true from aS)⟩ ?_
  refine Wp.ent' kR (Ent.blkE (id:=0) (b:=rdZ) (b':=rdB [] (encH []) [] (encL []) [] false) kR rdz_eqv0 rfl) ?_
  exact zb []
 | false =>
  rw [hi] at c1 h
  have ht:(bif !false then decide ((s.length:Int)>2048) else false)=true:=h
  refine zg [(1,{cs:=[(1,pc c1)]})] [false,true] [false=true→inR .i64 ((C.1.length:Int)+(4:Int)),(bif false then decide ((C.1.length:Int)+(4:Int)>(2048:Int)) else false)=false,(bif !false then decide ((s.length:Int)>(2048:Int)) else false)=true] ⟨(by simp;done),rfl,(show (bif !false then decide ((↑s.length:Int)>(2048:Int)) else false)=true from aS)⟩ ?_
  refine Wp.ent' kR (Ent.blkE (id:=0) (b:=rdZ) (b':=rdB [] (encH []) [] (encL []) [] false) kR rdz_eqv0 rfl) ?_
  exact zb []
theorem rcut_form (hL:HasLen G) (s:List UInt8) (hl:s.length<1000000000) (h:bigH s=false) (hi:(hdC s).2.2=false):FnB Tryz.prog G 178 [rdZ] [.c (.ptr 0 0),.c (.str s)] [.c (.int .i64 3)] [(0,rdB [] (encH []) [] (encL []) [] false)]:=by
 refine zf Tryz.func178 ?_
 obtain ⟨mx,hG⟩:=hL
 have c1:Pur Tryz.prog G 134 [.c (.str s),.c (.str [13,10,13,10])] [.c (.str (hdC s).1),.c (.str (hdC s).2.1),.c (.bool (hdC s).2.2)]:=lib_Cut hG s [13,10,13,10] oM
 unfold bigH at h
 generalize hdC s=C at c1 h hi
 rw [hi] at c1 h
 have ht:(bif !false then decide ((s.length:Int)>2048) else false)=false:=h
 refine zg [(1,{cs:=[(1,pc c1)]})] [false,false,true] [false=true→inR .i64 ((C.1.length:Int)+(4:Int)),(bif false then decide ((C.1.length:Int)+(4:Int)>(2048:Int)) else false)=false,(bif !false then decide ((s.length:Int)>(2048:Int)) else false)=false,(!false)=true] ⟨(by simp;done),rfl,aS,rfl⟩ ?_
 refine Wp.ent' kR (Ent.blkE (id:=0) (b:=rdZ) (b':=rdB [] (encH []) [] (encL []) [] false) kR rdz_eqv0 rfl) ?_
 exact zb []
theorem rcut_many (hL:HasLen G) (s:List UInt8) (hl:s.length<1000000000) (h:bigH s=false) (hi:(hdC s).2.2=true) (hm:(linesH s).length>25):FnB Tryz.prog G 178 [rdZ] [.c (.ptr 0 0),.c (.str s)] [.c (.int .i64 4)] [(0,rdB [] (encH []) (hdC s).2.1 (encL (linesH s)) [] false)]:=by
 refine zf Tryz.func178 ?_
 obtain ⟨mx,hG⟩:=hL
 have c1:Pur Tryz.prog G 134 [.c (.str s),.c (.str [13,10,13,10])] [.c (.str (hdC s).1),.c (.str (hdC s).2.1),.c (.bool (hdC s).2.2)]:=lib_Cut hG s [13,10,13,10] oM
 have hc:(hdC s).1.length≤s.length:=(cut_len s [13,10,13,10]).1
 have c2:Pur Tryz.prog G 224 [.c (.str (hdC s).1),.c (.str [13,10])] [.c (.sl 1 (linesH s).length (strsF (linesH s)))]:=lib_Split hG (hdC s).1 [13,10] oM dC
 unfold bigH at h
 generalize linesH s=L at c2 hm ⊢
 generalize hdC s=C at c1 c2 h hi hc ⊢
 rw [hi] at c1 h
 have ht:(bif true then decide ((C.1.length:Int)+4>2048) else false)=false:=h
 have hr:true=true→inR IntKind.i64 ((C.1.length:Int)+4):=fun _=>i6
 have ht2:(bif !true then decide ((s.length:Int)>2048) else false)=false:=rfl
 have ht3:decide ((L.length:Int)>25)=true:=by simp;omega
 refine zg [(1,{cs:=[(1,pc c1)]}),(7,{cs:=[(3,pc c2)]})] [false,false,false,true] [true=true→inR .i64 ((C.1.length:Int)+(4:Int)),(bif true then decide ((C.1.length:Int)+(4:Int)>(2048:Int)) else false)=false,(bif !true then decide ((s.length:Int)>(2048:Int)) else false)=false,(!true)=false,decide ((L.length:Int)>25)=true] ⟨aS,aS,rfl,rfl,(show decide ((↑L.length:Int)>(25:Int))=true from aS)⟩ ?_
 refine Wp.ent' kR (Ent.blkE (id:=0) (b:=rdB [] .nilsl C.2.1 (encL L) [] false) (b':=rdB [] (encH []) C.2.1 (encL L) [] false) kR (rdz_eqv _ _ _) rfl) ?_
 exact zb []
theorem drop1_eqv (L:List (List UInt8)) (n:Nat) (hn:n=L.length-1):EqvD (.c (.sl 1 n (fun i j=>strsF L (1+i) j))) (.c (encL (L.drop 1))):=by
 refine EqvD.sl (by rw [hn,List.length_drop]) fun i hi j hj => ?_
 unfold strsF
 rw [List.getD_eq_getElem?_getD,List.getD_eq_getElem?_getD,List.getElem?_drop]
theorem rcut_yes (hL:HasLen G) (s:List UInt8) (hl:s.length<1000000000) (h:bigH s=false) (hi:(hdC s).2.2=true) (hm:(linesH s).length≤25):FnB Tryz.prog G 178 [rdZ] [.c (.ptr 0 0),.c (.str s)] [.c (.int .i64 0)] [(0,rdB (firstH s) .nilsl (hdC s).2.1 (encL (fieldsL s)) [] false)]:=by
 refine zf Tryz.func178 ?_
 obtain ⟨mx,hG⟩:=hL
 have c1:Pur Tryz.prog G 134 [.c (.str s),.c (.str [13,10,13,10])] [.c (.str (hdC s).1),.c (.str (hdC s).2.1),.c (.bool (hdC s).2.2)]:=lib_Cut hG s [13,10,13,10] oM
 have hc:(hdC s).1.length≤s.length:=(cut_len s [13,10,13,10]).1
 have c2:Pur Tryz.prog G 224 [.c (.str (hdC s).1),.c (.str [13,10])] [.c (.sl 1 (linesH s).length (strsF (linesH s)))]:=lib_Split hG (hdC s).1 [13,10] oM dC
 have hpos:1≤(linesH s).length:=by
  unfold linesH Lib.split
  exact List.length_pos_iff.2 (splitK_nil _ _ _)
 unfold bigH at h
 unfold firstH fieldsL
 generalize linesH s=L at c2 hm hpos ⊢
 generalize hdC s=C at c1 c2 h hi hc ⊢
 rw [hi] at c1 h
 have ht:(bif true then decide ((C.1.length:Int)+4>2048) else false)=false:=h
 have hr:true=true→inR IntKind.i64 ((C.1.length:Int)+4):=fun _=>i6
 have ht2:(bif !true then decide ((s.length:Int)>2048) else false)=false:=rfl
 have ht3:decide ((L.length:Int)>25)=false:=by simp;omega
 have e1:=drop1_eqv L (L.length-1) rfl
 refine zg [(10,{fm:=[(12,.c (encL (L.drop 1)))]}),(1,{cs:=[(1,pc c1)]}),(7,{cs:=[(3,pc c2)]})] [false,false,false,false] [true=true→inR .i64 ((C.1.length:Int)+(4:Int)),(bif true then decide ((C.1.length:Int)+(4:Int)>(2048:Int)) else false)=false,(bif !true then decide ((s.length:Int)>(2048:Int)) else false)=false,(!true)=false,decide ((L.length:Int)>25)=false,(0:Int)≤(0:Int)∧(0:Int)<(L.length:Int),EqvI (.c (.sl 1 ((Int.ofNat L.length).toNat-(1:Nat)) fun i j=>strsF L ((1:Nat)+i) j)) (.c (encL (List.drop (1:Nat) L))),EqvD (.c (.sl 1 ((Int.ofNat L.length).toNat-(1:Nat)) fun i j=>strsF L ((1:Nat)+i) j)) (.c (encL (List.drop (1:Nat) L))),(0:Int)≤Int.ofNat (1)∧Int.ofNat (1)≤Int.ofNat L.length∧Int.ofNat L.length≤(L.length:Int)] ⟨aS,aS,rfl,rfl,aS,oM,fun _ _=>trivial,aS,⟨dC,⟨sO,(by simp;done)⟩⟩⟩ ?_
 exact zb []
theorem rsized_ok (f b z:List UInt8) (d:Bool) (hd:List FT) (l:List (List UInt8)) (hb:b.length<1000000000) (hz:z.length<1000000000):FnB Tryz.prog G 180 [rdB f (encH hd) b (encL l) z d] [.c (.ptr 0 0)] [.c (.int .i64 (szE z d b))] [(0,rdB f (encH hd) b (encL l) z d)]:=by
 refine zf Tryz.func180 ?_
 unfold szE
 cases d with
 | false =>
  rw [if_neg dC]
  by_cases hbe:b=[]
  ·rw [if_pos hbe]
   have ht:((0:Int) != (b.length:Int))=false:=by rw [hbe];rfl
   refine zg [] [false,false,false,false] [false=false,(!true)=false,decide ((0:Int)>(4096:Int))=false,((0:Int) != (b.length:Int))=false] ⟨rfl,rfl,rfl,(show ((0:Int) != (↑b.length:Int))=false from aS)⟩ ?_
   exact zb []
  ·rw [if_neg hbe]
   have ht:((0:Int) != (b.length:Int))=true:=by
    have:b.length≠0:=fun h=>hbe (List.length_eq_zero_iff.1 h)
    simp;omega
   refine zg [] [false,false,false,true] [false=false,(!true)=false,decide ((0:Int)>(4096:Int))=false,((0:Int) != (b.length:Int))=true] ⟨rfl,rfl,rfl,(show ((0:Int) != (↑b.length:Int))=true from aS)⟩ ?_
   exact zb []
 | true =>
  rw [if_pos rfl]
  cases hn:numK 9 z with
  | false =>
   rw [if_pos rfl]
   have c:=numK_no (G:=G) (K:=9) z hz hn
   refine zg [(3,{cs:=[(4,pc c)]})] [true,true] [true=true,(!false)=true] ⟨rfl,rfl⟩ ?_
   exact zb []
  | true =>
   rw [if_neg dC]
   have c:=numK_yes (G:=G) (K:=9) dC z hn
   generalize nv z=N at c ⊢
   by_cases h4:N>4096
   ·rw [if_pos h4]
    have ht:decide ((N:Int)>4096)=true:=by simp;omega
    refine zg [(3,{cs:=[(4,pc c)]})] [true,false,true] [true=true,(!true)=false,decide ((N:Int)>4096)=true] ⟨rfl,rfl,(show decide ((↑N:Int)>(4096:Int))=true from aS)⟩ ?_
    exact zb []
   ·rw [if_neg h4]
    have ht:decide ((N:Int)>4096)=false:=by simp;omega
    by_cases h5:N=b.length
    ·rw [if_pos h5]
     have ht2:((N:Int) != (b.length:Int))=false:=by simp;omega
     refine zg [(3,{cs:=[(4,pc c)]})] [true,false,false,false] [true=true,(!true)=false,decide ((N:Int)>4096)=false,((N:Int) != (b.length:Int))=false] ⟨rfl,rfl,aS,(show ((↑N:Int) != (↑b.length:Int))=false from aS)⟩ ?_
     exact zb []
    ·rw [if_neg h5]
     have ht2:((N:Int) != (b.length:Int))=true:=by simp;omega
     refine zg [(3,{cs:=[(4,pc c)]})] [true,false,false,true] [true=true,(!true)=false,decide ((N:Int)>4096)=false,((N:Int) != (b.length:Int))=true] ⟨rfl,rfl,aS,(show ((↑N:Int) != (↑b.length:Int))=true from aS)⟩ ?_
     exact zb []
theorem fGet_con (l:List FT) (n:List UInt8):(l.map (·.name)).contains n=(fGet l n).isSome:=by
 induction l with
 | nil=>rfl
 | cons x l ih =>
  rw [fGet_cons,List.map_cons,List.contains_cons,ih]
  cases h:(x.name==n) with
  | true=>rw [show (n==x.name)=true from by rw [eq_of_beq h]; simp]; rfl
  | false=>rw [show (n==x.name)=false from by rw [beq_eq_false_iff_ne] at h ⊢; exact fun e=>h e.symm]; rfl
theorem fGet_snoc (l:List FT) (x:FT) (n:List UInt8):fGet (l++[x]) n=match fGet l n with
  | some v=>some v
  | none=>if x.name==n then some x.value else none:=by
 induction l with
 | nil=>rw [List.nil_append,fGet_cons,fGet_nil]
 | cons y l ih =>
  rw [List.cons_append,fGet_cons,fGet_cons,ih]
  split<;>rfl
theorem filt_cl (acc:List FT) (x:FT) (h:(x.name==clN)=true):(acc++[x]).filter notCl=acc.filter notCl:=by
 rw [List.filter_append];simp [notCl,h]
theorem filt_no (acc:List FT) (x:FT) (h:(x.name==clN)=false):(acc++[x]).filter notCl=acc.filter notCl++[x]:=by
 rw [List.filter_append];simp [notCl,h]
theorem snoc_cl (acc:List FT) (x:FT) (h:(x.name==clN)=true) (hn:fGet acc clN=none):fGet (acc++[x]) clN=some x.value:=by
 rw [fGet_snoc,hn];simp only [h];rfl
theorem snoc_no (acc:List FT) (x:FT) (h:(x.name==clN)=false):fGet (acc++[x]) clN=fGet acc clN:=by
 rw [fGet_snoc];cases fGet acc clN<;>simp [h]
theorem fA_step (l:List (List UInt8)) (acc:List FT) (k:Nat) (hk:k<l.length):fieldsA (l.drop k) acc=if okA acc (l.getD k []) then fieldsA (l.drop (k+1)) (acc++[lineF (l.getD k [])]) else acc:=by
 rw [dropM l [] k hk,fieldsA]
theorem fO_step (l:List (List UInt8)) (acc:List FT) (k:Nat) (hk:k<l.length):fieldsO (l.drop k) acc=if okA acc (l.getD k []) then fieldsO (l.drop (k+1)) (acc++[lineF (l.getD k [])]) else false:=by
 rw [dropM l [] k hk,fieldsO]
theorem okA_b (c t s h:Bool):(bif bif bif !c then true else !t then true else !s then true else h) = !((c&&(t&&s)) && !h):=by
 cases c<;>cases t<;>cases s<;>cases h<;>rfl
theorem rfields_ok (hL:HasLen G) (f b:List UInt8) (l:List (List UInt8)) (hl:∀ k,(l.getD k []).length<1000000000) (hn:l.length<1000000):FnB Tryz.prog G 179 [rdB f .nilsl b (encL l) [] false] [.c (.ptr 0 0)] [.c (.int .i64 (if fieldsO l [] then 0 else 3))]
  [(0,rdB f (encH ((fieldsA l []).filter notCl)) b (encL l) ((fGet (fieldsA l []) clN).getD []) (fGet (fieldsA l []) clN).isSome)]:=by
 refine zf Tryz.func179 ?_
 obtain ⟨mx,hG⟩:=hL
 refine z0 [] [] ?_
 refine Wp.loopK kR (fun (x:Nat×Nat×List FT×List FT×List UInt8×Bool)=>⟨[(0,TV.v (V1.c (Cell.ptr 0 0))),(3,TV.v (V1.c (Cell.map 17))),(14,TV.v (V1.c (Cell.sl 1 l.length (strsF l)))),(15,TV.v (V1.c (Cell.int .i64 (l.length:Int)))),(16,TV.v (V1.c (Cell.int .i64 (x.1:Int))))],[(0,Blk.box 184 [.str f,.row 2 145 0 x.2.1,.str b,encL l,.str x.2.2.2.2.1,.bool x.2.2.2.2.2]),(17,Blk.ob (Ob.ms (seenL (x.2.2.1.map (·.name))))),(145,Blk.row 103 2 x.2.1 (rowF encF .nil x.2.2.2.1))],161⟩)
  (fun x=>x.1≤l.length∧x.2.1=x.2.2.2.1.length∧x.2.1≤x.1∧fieldsA l []=fieldsA (l.drop x.1) x.2.2.1∧fieldsO l []=fieldsO (l.drop x.1) x.2.2.1∧x.2.2.2.1=x.2.2.1.filter notCl∧x.2.2.2.2.1=(fGet x.2.2.1 clN).getD []∧x.2.2.2.2.2=(fGet x.2.2.1 clN).isSome) (fun x=>l.length-x.1) (0,0,[],[],[],false)
  (Ent.trans (Ent.empC (b:=0) (o:=1) (sz:=2) (e:=103) (e':=184) (cs:=[.str f,.nilsl,.str b,encL l,.str [],.bool false]) (f:=rowF encF .nil []) dC (of_decide_eq_true kR) kR kR rfl) (Ent.of [] kR kR kR trivial)) ⟨Nat.zero_le _,rfl,Nat.le_refl _,rfl,rfl,rfl,rfl,rfl⟩ ?_
 rintro ⟨k,n,acc,H,z,d⟩ L ⟨hk,hnH,hnk,hA,hO,hH,hz,hd⟩ again
 simp only at hk hnH hnk hA hO hH hz hd
 rcases Nat.lt_or_ge k l.length with hlt | hge
 ·rw [fA_step l acc k hlt] at hA
  rw [fO_step l acc k hlt] at hO
  have hp:=hl k
  have hcl:=cut_len (l.getD k []) [58,32]
  have c1:=lib_Cut (G:=G) hG (l.getD k []) [58,32] oM
  have c2:=fold_ok (G:=G) (Lib.cut (l.getD k []) [58,32]).1 oM
  have c3:=token_ok (G:=G) (Lib.cut (l.getD k []) [58,32]).1 oM
  have c4:=seen_ok (G:=G) (Lib.cut (l.getD k []) [58,32]).2.1 oM
  have e0:EqvD (mget (seenL (acc.map (·.name))) (foldT (Lib.cut (l.getD k []) [58,32]).1) (.c (.bool false))) (.c (.bool ((acc.map (·.name)).contains (lineF (l.getD k [])).name))):=eqvD_of (seenL_get _ _)
  have ht:=okA_b (Lib.cut (l.getD k []) [58,32]).2.2 (tokenT (Lib.cut (l.getD k []) [58,32]).1) ((Lib.cut (l.getD k []) [58,32]).2.1.all seenB) ((acc.map (·.name)).contains (lineF (l.getD k [])).name)
  rw [show (((Lib.cut (l.getD k []) [58,32]).2.2&&(tokenT (Lib.cut (l.getD k []) [58,32]).1&&(Lib.cut (l.getD k []) [58,32]).2.1.all seenB)) && !((acc.map (·.name)).contains (lineF (l.getD k [])).name))=okA acc (l.getD k []) from by rw [fGet_con];rfl] at ht
  cases hok:okA acc (l.getD k []) with
  | false =>
   rw [hok,if_neg dC] at hA hO
   rw [hA,hO,← hH,← hz,← hd]
   rw [hok] at ht
   have ht:(bif bif bif !(Lib.cut (l.getD k []) [58,32]).2.2 then true else !tokenT (Lib.cut (l.getD k []) [58,32]).1 then true else !(Lib.cut (l.getD k []) [58,32]).2.1.all seenB then true else (acc.map (·.name)).contains (lineF (l.getD k [])).name)=true:=ht
   clear hA hO hok hH hz hd
   refine Wp.ent' kR (Ent.pubC (id:=145) (b:=0) (o:=1) (off:=0) (m:=n) (sz:=2) (n:=n) (e:=103) (e':=184) (cs:=[.str f,.row 2 145 0 n,.str b,encL l,.str z,.bool d]) (f:=rowF encF .nil H) (m':=H.length) (f':=fun i j=>nthD (encF (H.getD i .nil)) j) kR kR kR oM hnH (fun i _ j hj=>by rw [Nat.zero_add];rfl) rfl) ?_
   refine zg [(7,{cs:=[(4,pc c3),(9,pc c4)],fm:=[(15,.c (.bool ((acc.map (·.name)).contains (lineF (l.getD k [])).name)))]}),(5,{cs:=[(1,pc c1)]}),(6,{cs:=[(1,pc c2)]})] [true,true] [decide ((k:Int)<(l.length:Int))=true,(0:Int)≤(k:Int)∧(k:Int)<(l.length:Int),EqvI (mget (seenL (List.map (fun (x:FT)=>x.name) acc)) (foldT (Lib.cut (l.getD k []) [(58:UInt8),32]).1) (.c (.bool false))) (.c (.bool ((List.map (fun (x:FT)=>x.name) acc).contains (lineF (l.getD k [])).name))),(bif bif !(Lib.cut (l.getD k []) [(58:UInt8),32]).2.snd then true else !tokenT (Lib.cut (l.getD k []) [(58:UInt8),32]).1 then true else !(Lib.cut (l.getD k []) [(58:UInt8),32]).2.fst.all seenB)=false→EqvD (mget (seenL (List.map (fun (x:FT)=>x.name) acc)) (foldT (Lib.cut (l.getD k []) [(58:UInt8),32]).1) (.c (.bool false))) (.c (.bool ((List.map (fun (x:FT)=>x.name) acc).contains (lineF (l.getD k [])).name))),(bif bif bif !(Lib.cut (l.getD k []) [(58:UInt8),32]).2.snd then true else !tokenT (Lib.cut (l.getD k []) [(58:UInt8),32]).1 then true else !(Lib.cut (l.getD k []) [(58:UInt8),32]).2.fst.all seenB then true else (List.map (fun (x:FT)=>x.name) acc).contains (lineF (l.getD k [])).name)=true] ⟨sO,oM,fun _ _=>trivial,(by intro _;assumption),(show (bif bif bif !(Lib.cut (l.getD k []) [(58:UInt8),32]).2.snd then true else !tokenT (Lib.cut (l.getD k []) [(58:UInt8),32]).1 then true else !(Lib.cut (l.getD k []) [(58:UInt8),32]).2.fst.all seenB then true else (List.map (fun (x:FT)=>x.name) acc).contains (lineF (l.getD k [])).name)=true from aS)⟩ ?_
   exact zb []
  | true =>
   rw [hok,if_pos rfl] at hA hO
   rw [hok] at ht
   have ht:(bif bif bif !(Lib.cut (l.getD k []) [58,32]).2.2 then true else !tokenT (Lib.cut (l.getD k []) [58,32]).1 then true else !(Lib.cut (l.getD k []) [58,32]).2.1.all seenB then true else (acc.map (·.name)).contains (lineF (l.getD k [])).name)=false:=ht
   have hno:(fGet acc (lineF (l.getD k [])).name)=none:=by
    unfold okA at hok
    cases hg:fGet acc (lineF (l.getD k [])).name with
    | none=>rfl
    | some v=>rw [hg] at hok; simp at hok
   have hc:(acc.map (·.name)).contains (lineF (l.getD k [])).name=false:=by rw [fGet_con,hno];rfl
   have e2:BlkEqv (.ob (.ms (mset (seenL (acc.map (·.name))) (lineF (l.getD k [])).name (.c (.bool true))))) (.ob (.ms (seenL ((acc++[lineF (l.getD k [])]).map (·.name))))):=BlkEqv.of_eq (by rw [seenL_set _ _ hc,List.map_append];rfl)
   cases hcl2:((lineF (l.getD k [])).name==clN) with
   | true =>
    have hcl3:(foldT (Lib.cut (l.getD k []) [58,32]).1==clN)=true:=hcl2
    have hnone:fGet acc clN=none:=by rw [← eq_of_beq hcl2];exact hno
    have f1:H=(acc++[lineF (l.getD k [])]).filter notCl:=by rw [filt_cl _ _ hcl2,← hH]
    have f2:(Lib.cut (l.getD k []) [58,32]).2.1=(fGet (acc++[lineF (l.getD k [])]) clN).getD []:=by rw [snoc_cl _ _ hcl2 hnone];rfl
    have f3:true=(fGet (acc++[lineF (l.getD k [])]) clN).isSome:=by rw [snoc_cl _ _ hcl2 hnone];rfl
    clear hok hno hc hnone hcl2 hH hz hd
    refine zg [(7,{cs:=[(4,pc c3),(9,pc c4)],fm:=[(15,.c (.bool ((acc.map (·.name)).contains (lineF (l.getD k [])).name)))]}),(9,{bs:=[(2,.ob (.ms (seenL ((acc++[lineF (l.getD k [])]).map (·.name)))))]}),(5,{cs:=[(1,pc c1)]}),(6,{cs:=[(1,pc c2)]})] [true,false,true] [decide ((k:Int)<(l.length:Int))=true,(0:Int)≤(k:Int)∧(k:Int)<(l.length:Int),EqvI (mget (seenL (List.map (fun (x:FT)=>x.name) acc)) (foldT (Lib.cut (l.getD k []) [(58:UInt8),32]).1) (.c (.bool false))) (.c (.bool ((List.map (fun (x:FT)=>x.name) acc).contains (lineF (l.getD k [])).name))),(bif bif !(Lib.cut (l.getD k []) [(58:UInt8),32]).2.snd then true else !tokenT (Lib.cut (l.getD k []) [(58:UInt8),32]).1 then true else !(Lib.cut (l.getD k []) [(58:UInt8),32]).2.fst.all seenB)=false→EqvD (mget (seenL (List.map (fun (x:FT)=>x.name) acc)) (foldT (Lib.cut (l.getD k []) [(58:UInt8),32]).1) (.c (.bool false))) (.c (.bool ((List.map (fun (x:FT)=>x.name) acc).contains (lineF (l.getD k [])).name))),(bif bif bif !(Lib.cut (l.getD k []) [(58:UInt8),32]).2.snd then true else !tokenT (Lib.cut (l.getD k []) [(58:UInt8),32]).1 then true else !(Lib.cut (l.getD k []) [(58:UInt8),32]).2.fst.all seenB then true else (List.map (fun (x:FT)=>x.name) acc).contains (lineF (l.getD k [])).name)=false,BlkEqv (.ob (Ob.ms (mset (seenL (List.map (fun (x:FT)=>x.name) acc)) (foldT (Lib.cut (l.getD k []) [(58:UInt8),32]).1) (.c (.bool true))))) (.ob (Ob.ms (seenL (List.map (fun (x:FT)=>x.name) (acc++[lineF (l.getD k [])]))))),(foldT (Lib.cut (l.getD k []) [(58:UInt8),32]).1==[(99:UInt8),111,110,116,101,110,116,45,108,101,110,103,116,104])=true,inR .i64 ((k:Int)+1)] ⟨sO,oM,fun _ _=>trivial,(by intro _;assumption),aS,aS,aS,i6⟩ ?_
    exact za [] (again _ (k+1,n,acc++[lineF (l.getD k [])],H,(Lib.cut (l.getD k []) [58,32]).2.1,true) ⟨aS,⟨aS,⟨sO,⟨aS,⟨aS,⟨aS,⟨aS,aS⟩⟩⟩⟩⟩⟩⟩ oM)
   | false =>
    have hcl3:(foldT (Lib.cut (l.getD k []) [58,32]).1==clN)=false:=hcl2
    have f1:H++[lineF (l.getD k [])]=(acc++[lineF (l.getD k [])]).filter notCl:=by rw [filt_no _ _ hcl2,← hH]
    have f2:z=(fGet (acc++[lineF (l.getD k [])]) clN).getD []:=by rw [snoc_no _ _ hcl2];exact hz
    have f3:d=(fGet (acc++[lineF (l.getD k [])]) clN).isSome:=by rw [snoc_no _ _ hcl2];exact hd
    have e3:BlkEqv (.row 103 2 (n+1) (catF n (rowF encF .nil H) (fun i j=>nthD (encF (lineF (l.getD k []))) ((0+i)*2+j)))) (.row 103 2 (n+1) (rowF encF .nil (H++[lineF (l.getD k [])]))):=enc_app H _ hnH
    have q2:n+1=(H++[lineF (l.getD k [])]).length:=by simp [hnH]
    clear hok hno hc hcl2 hH hz hd
    refine zg [(7,{cs:=[(4,pc c3),(9,pc c4)],fm:=[(15,.c (.bool ((acc.map (·.name)).contains (lineF (l.getD k [])).name)))]}),(9,{bs:=[(2,.ob (.ms (seenL ((acc++[lineF (l.getD k [])]).map (·.name)))))]}),(12,{bs:=[(10,.row 103 2 (n+1) (rowF encF .nil (H++[lineF (l.getD k [])])))]}),(5,{cs:=[(1,pc c1)]}),(6,{cs:=[(1,pc c2)]})] [true,false,false] [decide ((k:Int)<(l.length:Int))=true,(0:Int)≤(k:Int)∧(k:Int)<(l.length:Int),EqvI (mget (seenL (List.map (fun (x:FT)=>x.name) acc)) (foldT (Lib.cut (l.getD k []) [(58:UInt8),32]).1) (.c (.bool false))) (.c (.bool ((List.map (fun (x:FT)=>x.name) acc).contains (lineF (l.getD k [])).name))),(bif bif !(Lib.cut (l.getD k []) [(58:UInt8),32]).2.snd then true else !tokenT (Lib.cut (l.getD k []) [(58:UInt8),32]).1 then true else !(Lib.cut (l.getD k []) [(58:UInt8),32]).2.fst.all seenB)=false→EqvD (mget (seenL (List.map (fun (x:FT)=>x.name) acc)) (foldT (Lib.cut (l.getD k []) [(58:UInt8),32]).1) (.c (.bool false))) (.c (.bool ((List.map (fun (x:FT)=>x.name) acc).contains (lineF (l.getD k [])).name))),(bif bif bif !(Lib.cut (l.getD k []) [(58:UInt8),32]).2.snd then true else !tokenT (Lib.cut (l.getD k []) [(58:UInt8),32]).1 then true else !(Lib.cut (l.getD k []) [(58:UInt8),32]).2.fst.all seenB then true else (List.map (fun (x:FT)=>x.name) acc).contains (lineF (l.getD k [])).name)=false,BlkEqv (.ob (Ob.ms (mset (seenL (List.map (fun (x:FT)=>x.name) acc)) (foldT (Lib.cut (l.getD k []) [(58:UInt8),32]).1) (.c (.bool true))))) (.ob (Ob.ms (seenL (List.map (fun (x:FT)=>x.name) (acc++[lineF (l.getD k [])]))))),(foldT (Lib.cut (l.getD k []) [(58:UInt8),32]).1==[(99:UInt8),111,110,116,101,110,116,45,108,101,110,103,116,104])=false,(n+1)*32≤140737488355328,BlkEqv (.row 103 (2:Nat) (n+(1:Nat)) (catF n (fun i j=>nthD [.str (H.getD i .nil).name,.str (H.getD i .nil).value] j) fun i j=>nthD [.str (foldT (Lib.cut (l.getD k []) [(58:UInt8),32]).1),.str (Lib.cut (l.getD k []) [(58:UInt8),32]).2.fst] (((0:Nat)+i)*(2:Nat)+j))) (.row 103 (2:Nat) (n+(1:Nat)) (rowF encF FT.nil (H++[lineF (l.getD k [])]))),n≤n,0+1≤1,inR .i64 ((k:Int)+1)] ⟨sO,oM,fun _ _=>trivial,(by intro _;assumption),aS,aS,aS,oM,aS,oM,oM,i6⟩ ?_
    exact za [(145,929)] (again _ (k+1,n+1,acc++[lineF (l.getD k [])],H++[lineF (l.getD k [])],z,d) ⟨aS,⟨aS,⟨sO,⟨aS,⟨aS,⟨aS,⟨aS,aS⟩⟩⟩⟩⟩⟩⟩ oM)
 ·rw [List.drop_of_length_le hge] at hA hO
  rw [hA,hO,fieldsA,fieldsO,← hH,← hz,← hd]
  clear hA hO hH hz hd
  refine Wp.ent' kR (Ent.pubC (id:=145) (b:=0) (o:=1) (off:=0) (m:=n) (sz:=2) (n:=n) (e:=103) (e':=184) (cs:=[.str f,.row 2 145 0 n,.str b,encL l,.str z,.bool d]) (f:=rowF encF .nil H) (m':=H.length) (f':=fun i j=>nthD (encF (H.getD i .nil)) j) kR kR kR oM hnH (fun i _ j hj=>by rw [Nat.zero_add];rfl) rfl) ?_
  refine zg [] [false] [decide ((k:Int)<(l.length:Int))=false] (oN sO) ?_
  exact zb []
theorem readH_no1 {line:List UInt8→Bool} {s:List UInt8} (h:bigH s=true):readH line s=([],4):=by
 unfold readH splitH;rw [h];rfl
theorem readH_no2 {line:List UInt8→Bool} {s:List UInt8} (h:bigH s=false) (hi:(hdC s).2.2=false):readH line s=([],3):=by
 unfold readH splitH;rw [h,hi];rfl
theorem readH_no3 {line:List UInt8→Bool} {s:List UInt8} (h:bigH s=false) (hi:(hdC s).2.2=true) (hm:(linesH s).length>25):readH line s=([],4):=by
 unfold readH splitH;rw [h,hi,if_pos hm];rfl
theorem splitH_yes {s:List UInt8} (h:bigH s=false) (hi:(hdC s).2.2=true) (hm:¬ (linesH s).length>25):splitH s=0:=by
 unfold splitH;rw [h,hi,if_neg hm];rfl
theorem readH_line {line:List UInt8→Bool} {s:List UInt8} (h:splitH s=0) (hf:line (firstH s)=false):readH line s=([],3):=by
 unfold readH;rw [h,hf];rfl
theorem readH_flds {line:List UInt8→Bool} {s:List UInt8} (h:splitH s=0) (hf:line (firstH s)=true) (hO:fieldsO (fieldsL s) []=false):readH line s=([],3):=by
 unfold readH;rw [h,hf,hO];rfl
theorem readH_end {line:List UInt8→Bool} {s:List UInt8} (h:splitH s=0) (hf:line (firstH s)=true) (hO:fieldsO (fieldsL s) []=true):readH line s=if bodyE (fieldsA (fieldsL s) []) (hdC s).2.1=0 then ((fieldsA (fieldsL s) []).filter notCl,0) else ([],bodyE (fieldsA (fieldsL s) []) (hdC s).2.1):=by
 unfold readH;rw [h,hf,hO];rfl
theorem fA_len:∀ (l:List (List UInt8)) (acc:List FT),(fieldsA l acc).length≤acc.length+l.length
 | [],acc=>by simp [fieldsA]
 | p::r,acc=>by
  unfold fieldsA
  split
  ·have:=fA_len r (acc++[lineF p])
   simp at this ⊢
   omega
  ·omega
theorem fA_sm {B:Nat}:∀ (l:List (List UInt8)) (acc:List FT),(∀ p∈l,p.length≤B)→(∀ f∈acc,f.name.length≤B∧f.value.length≤B)→∀ f∈fieldsA l acc,f.name.length≤B∧f.value.length≤B
 | [],acc,_,h=>by simpa [fieldsA] using h
 | p::r,acc,hl,h=>by
  unfold fieldsA
  split
  ·refine fA_sm r _ (fun q hq=>hl q (by simp [hq])) (fun f hf => ?_)
   rcases List.mem_append.1 hf with hf | hf
   ·exact h f hf
   ·rw [List.mem_singleton.1 hf]
    have:=cut_len p [58,32]
    have hp:=hl p (by simp)
    exact ⟨by show (foldT _).length≤_;unfold foldT;rw [List.length_map];omega,by show (Lib.cut p [58,32]).2.1.length≤_;omega⟩
  ·exact h
theorem fGet_mem {l:List FT} {n v:List UInt8} (h:fGet l n=some v):∃ f∈l,f.name=n∧f.value=v:=by
 unfold fGet at h
 cases hf:l.find? (fun f=>f.name==n) with
 | none=>rw [hf] at h; cases h
 | some f =>
  rw [hf] at h
  have h1:=List.find?_some hf
  exact ⟨f,List.mem_of_find?_eq_some hf,eq_of_beq h1,by simpa using h⟩
theorem fldsL_sm (s:List UInt8):∀ p∈fieldsL s,p.length≤s.length:=by
 intro p hp
 have h1:=splitK_len [13,10] _ (hdC s).1 p (List.mem_of_mem_drop hp)
 have h2:(hdC s).1.length≤s.length:=(cut_len s [13,10,13,10]).1
 omega
theorem first_sm (s:List UInt8):(firstH s).length≤s.length:=by
 have h1:(firstH s).length≤(hdC s).1.length:=split_el (hdC s).1 [13,10] 0
 have h2:(hdC s).1.length≤s.length:=(cut_len s [13,10,13,10]).1
 omega
theorem cl_sm (s:List UInt8):((fGet (fieldsA (fieldsL s) []) clN).getD []).length≤s.length:=by
 cases h:fGet (fieldsA (fieldsL s) []) clN with
 | none=>simp
 | some v =>
  obtain ⟨f,hf,_,rfl⟩:=fGet_mem h
  exact (fA_sm (B:=s.length) _ [] (fldsL_sm s) (fun f hf=>by cases hf) f hf).2
theorem readsQ_no (hL:HasLen G) (s:List UInt8) (hl:s.length<1000000000) (h:(readH askB s).2≠0):∃ (f b z:List UInt8) (hd:List FT) (l:List (List UInt8)) (d:Bool),FnB Tryz.prog G 131 [.box 59 [.str [],.str [],.nilsl,.str []]] [.c (.str s),.c (clo1 200 (.ptr 0 0))] [.c (.ptr 1 0),.c (.int .i64 (readH askB s).2)] [(1,rdB f (encH hd) b (encL l) z d)]:=by
 have hb:(hdC s).2.1.length≤s.length:=(cut_len s [13,10,13,10]).2
 cases hbig:bigH s with
 | true =>
  rw [readH_no1 hbig]
  refine ⟨[],[],[],[],[],false,?_⟩
  refine zf Tryz.func131 ?_
  have c1:=rcut_big hL s hl hbig
  refine zg [(2,{cs:=[(2,cb [49] c1)]}),(3,{grd:=[(3,false),(4,false),(5,false),(6,false),(7,false),(8,false),(9,false),(10,false),(11,false)]})] [false,false,false] [((4:Int)==(0:Int)) = !true,((4:Int)==(0:Int)) = !true,((4:Int)==(0:Int)) = !true,((4:Int)==(0:Int)) = !true,((4:Int)==(0:Int)) = !true,((4:Int)==(0:Int)) = !true,((4:Int)==(0:Int)) = !true,((4:Int)==(0:Int)) = !true,((4:Int)==(0:Int))=false,false=false,((4:Int)==(0:Int))=false,((4:Int)==(0:Int))=false] ⟨rfl,rfl,rfl,rfl,rfl,rfl,rfl,rfl,rfl,rfl,rfl,rfl⟩ ?_
  exact zb [49]
 | false =>
  cases hi:(hdC s).2.2 with
  | false =>
   rw [readH_no2 hbig hi]
   refine ⟨[],[],[],[],[],false,?_⟩
   refine zf Tryz.func131 ?_
   have c1:=rcut_form hL s hl hbig hi
   refine zg [(2,{cs:=[(2,cb [49] c1)]}),(3,{grd:=[(3,false),(4,false),(5,false),(6,false),(7,false),(8,false),(9,false),(10,false),(11,false)]})] [false,false,false] [((3:Int)==(0:Int)) = !true,((3:Int)==(0:Int)) = !true,((3:Int)==(0:Int)) = !true,((3:Int)==(0:Int)) = !true,((3:Int)==(0:Int)) = !true,((3:Int)==(0:Int)) = !true,((3:Int)==(0:Int)) = !true,((3:Int)==(0:Int)) = !true,((3:Int)==(0:Int))=false,false=false,((3:Int)==(0:Int))=false,((3:Int)==(0:Int))=false] ⟨rfl,rfl,rfl,rfl,rfl,rfl,rfl,rfl,rfl,rfl,rfl,rfl⟩ ?_
   exact zb [49]
  | true =>
   by_cases hm:(linesH s).length>25
   ·rw [readH_no3 hbig hi hm]
    refine ⟨[],(hdC s).2.1,[],[],linesH s,false,?_⟩
    refine zf Tryz.func131 ?_
    have c1:=rcut_many hL s hl hbig hi hm
    refine zg [(2,{cs:=[(2,cb [49] c1)]}),(3,{grd:=[(3,false),(4,false),(5,false),(6,false),(7,false),(8,false),(9,false),(10,false),(11,false)]})] [false,false,false] [((4:Int)==(0:Int)) = !true,((4:Int)==(0:Int)) = !true,((4:Int)==(0:Int)) = !true,((4:Int)==(0:Int)) = !true,((4:Int)==(0:Int)) = !true,((4:Int)==(0:Int)) = !true,((4:Int)==(0:Int)) = !true,((4:Int)==(0:Int)) = !true,((4:Int)==(0:Int))=false,false=false,((4:Int)==(0:Int))=false,((4:Int)==(0:Int))=false] ⟨rfl,rfl,rfl,rfl,rfl,rfl,rfl,rfl,rfl,rfl,rfl,rfl⟩ ?_
    exact zb [49]
   ·have hsp:=splitH_yes hbig hi hm
    have c1:=rcut_yes hL s hl hbig hi oM
    have hfs:=first_sm s
    have hfl:=fldsL_sm s
    have hcl:=cl_sm s
    have hfn:(fieldsL s).length<1000000:=by unfold fieldsL;rw [List.length_drop];omega
    have hfe:∀ k,((fieldsL s).getD k []).length<1000000000:=fun k=>by
     rw [List.getD_eq_getElem?_getD]
     cases hx:(fieldsL s)[k]? with
     | none=>show 0<_; omega
     | some x=>have:=hfl x (List.mem_of_getElem? hx); simp; omega
    have c2:=askL_ok hL (firstH s) [] [] oM
    cases hf:askB (firstH s) with
    | false =>
     rw [readH_line hsp hf]
     rw [hf] at c2
     refine ⟨firstH s,(hdC s).2.1,[],[],fieldsL s,false,?_⟩
     refine zf Tryz.func131 ?_
     clear hf
     refine zg [(3,{grd:=[(3,true),(4,true),(5,true),(6,true),(7,true),(8,true),(9,true),(10,true)],cs:=[(9,cb [0] c2)]}),(2,{cs:=[(2,cb [49] c1)]})] [true,false,false] [((0:Int)==(0:Int))=true,((0:Int)==(0:Int))=true,((0:Int)==(0:Int))=true,((0:Int)==(0:Int))=true,((0:Int)==(0:Int))=true,((0:Int)==(0:Int))=true,((0:Int)==(0:Int))=true,((0:Int)==(0:Int))=true,(bif (0:Int)==(0:Int) then !false else false)=true,((3:Int)==(0:Int))=false,((3:Int)==(0:Int))=false] ⟨rfl,rfl,rfl,rfl,rfl,rfl,rfl,rfl,rfl,rfl,rfl⟩ ?_
     refine Wp.ent' kR (Ent.blkE (id:=49) (b:=rdB (firstH s) .nilsl (hdC s).2.1 (encL (fieldsL s)) [] false) (b':=rdB (firstH s) (encH []) (hdC s).2.1 (encL (fieldsL s)) [] false) kR (rdz_eqv _ _ _) rfl) ?_
     exact zb [49]
    | true =>
     rw [hf] at c2
     have c3:=rfields_ok hL (firstH s) (hdC s).2.1 (fieldsL s) hfe hfn
     cases hO:fieldsO (fieldsL s) [] with
     | false =>
      rw [readH_flds hsp hf hO]
      rw [hO] at c3
      refine ⟨firstH s,(hdC s).2.1,(fGet (fieldsA (fieldsL s) []) clN).getD [],(fieldsA (fieldsL s) []).filter notCl,fieldsL s,(fGet (fieldsA (fieldsL s) []) clN).isSome,?_⟩
      refine zf Tryz.func131 ?_
      clear hf h
      refine zg [(3,{grd:=[(3,true),(4,true),(5,true),(6,true),(7,true),(8,true),(9,true),(10,true)],cs:=[(9,cb [0] c2)]}),(2,{cs:=[(2,cb [49] c1)]}),(6,{cs:=[(1,cb [49] c3)]})] [false,true,false] [((0:Int)==(0:Int))=true,((0:Int)==(0:Int))=true,((0:Int)==(0:Int))=true,((0:Int)==(0:Int))=true,((0:Int)==(0:Int))=true,((0:Int)==(0:Int))=true,((0:Int)==(0:Int))=true,((0:Int)==(0:Int))=true,(bif (0:Int)==(0:Int) then !true else false)=false,((0:Int)==(0:Int))=true,((if false=true then (0:Int) else (3:Int))==(0:Int))=false] ⟨rfl,rfl,rfl,rfl,rfl,rfl,rfl,rfl,rfl,rfl,rfl⟩ ?_
      exact zb [49]
     | true =>
      rw [readH_end hsp hf hO] at h ⊢
      rw [hO] at c3
      have c4:=rsized_ok (G:=G) (firstH s) (hdC s).2.1 ((fGet (fieldsA (fieldsL s) []) clN).getD []) (fGet (fieldsA (fieldsL s) []) clN).isSome ((fieldsA (fieldsL s) []).filter notCl) (fieldsL s) oM oM
      rw [show szE ((fGet (fieldsA (fieldsL s) []) clN).getD []) (fGet (fieldsA (fieldsL s) []) clN).isSome (hdC s).2.1=bodyE (fieldsA (fieldsL s) []) (hdC s).2.1 from rfl] at c4
      by_cases he:bodyE (fieldsA (fieldsL s) []) (hdC s).2.1=0
      ·rw [if_pos he] at h
       exact (h rfl).elim
      ·rw [if_neg he]
       refine ⟨firstH s,(hdC s).2.1,(fGet (fieldsA (fieldsL s) []) clN).getD [],(fieldsA (fieldsL s) []).filter notCl,fieldsL s,(fGet (fieldsA (fieldsL s) []) clN).isSome,?_⟩
       refine zf Tryz.func131 ?_
       clear hf h
       refine zg [(3,{grd:=[(3,true),(4,true),(5,true),(6,true),(7,true),(8,true),(9,true),(10,true)],cs:=[(9,cb [0] c2)]}),(2,{cs:=[(2,cb [49] c1)]}),(6,{cs:=[(1,cb [49] c3)]}),(8,{cs:=[(1,cb [49] c4)]})] [false,true,true] [((0:Int)==(0:Int))=true,((0:Int)==(0:Int))=true,((0:Int)==(0:Int))=true,((0:Int)==(0:Int))=true,((0:Int)==(0:Int))=true,((0:Int)==(0:Int))=true,((0:Int)==(0:Int))=true,((0:Int)==(0:Int))=true,(bif (0:Int)==(0:Int) then !true else false)=false,((0:Int)==(0:Int))=true,((if true=true then (0:Int) else (3:Int))==(0:Int))=true] ⟨rfl,rfl,rfl,rfl,rfl,rfl,rfl,rfl,rfl,rfl,rfl⟩ ?_
       exact zb [49]
theorem readsQ_yes (hL:HasLen G) (s:List UInt8) (hl:s.length<1000000000) (h:(readH askB s).2=0):∃ (f z:List UInt8) (l:List (List UInt8)) (d:Bool),FnB Tryz.prog G 131 [.box 59 [.str [],.str [],.nilsl,.str []]] [.c (.str s),.c (clo1 200 (.ptr 0 0))] [.c (.ptr 1 0),.c (.int .i64 0)] [(0,.box 59 [.str (askM (firstH s)),.str (askT (firstH s)),.nilsl,.str []]),(1,rdB f (encH (readH askB s).1) (hdC s).2.1 (encL l) z d)]:=by
 have hb:(hdC s).2.1.length≤s.length:=(cut_len s [13,10,13,10]).2
 cases hbig:bigH s with
 | true=>rw [readH_no1 hbig] at h; cases h
 | false =>
  cases hi:(hdC s).2.2 with
  | false=>rw [readH_no2 hbig hi] at h; cases h
  | true =>
   by_cases hm:(linesH s).length>25
   ·rw [readH_no3 hbig hi hm] at h;cases h
   ·have hsp:=splitH_yes hbig hi hm
    have c1:=rcut_yes hL s hl hbig hi oM
    have hfs:=first_sm s
    have hfl:=fldsL_sm s
    have hcl:=cl_sm s
    have hfn:(fieldsL s).length<1000000:=by unfold fieldsL;rw [List.length_drop];omega
    have hfe:∀ k,((fieldsL s).getD k []).length<1000000000:=fun k=>by
     rw [List.getD_eq_getElem?_getD]
     cases hx:(fieldsL s)[k]? with
     | none=>show 0<_; omega
     | some x=>have:=hfl x (List.mem_of_getElem? hx); simp; omega
    have c2:=askL_ok hL (firstH s) [] [] oM
    cases hf:askB (firstH s) with
    | false=>rw [readH_line hsp hf] at h; cases h
    | true =>
     rw [hf] at c2
     have c3:=rfields_ok hL (firstH s) (hdC s).2.1 (fieldsL s) hfe hfn
     cases hO:fieldsO (fieldsL s) [] with
     | false=>rw [readH_flds hsp hf hO] at h; cases h
     | true =>
      rw [readH_end hsp hf hO] at h ⊢
      rw [hO] at c3
      have c4:=rsized_ok (G:=G) (firstH s) (hdC s).2.1 ((fGet (fieldsA (fieldsL s) []) clN).getD []) (fGet (fieldsA (fieldsL s) []) clN).isSome ((fieldsA (fieldsL s) []).filter notCl) (fieldsL s) oM oM
      rw [show szE ((fGet (fieldsA (fieldsL s) []) clN).getD []) (fGet (fieldsA (fieldsL s) []) clN).isSome (hdC s).2.1=bodyE (fieldsA (fieldsL s) []) (hdC s).2.1 from rfl] at c4
      by_cases he:bodyE (fieldsA (fieldsL s) []) (hdC s).2.1=0
      ·rw [if_pos he]
       rw [he] at c4
       refine ⟨firstH s,(fGet (fieldsA (fieldsL s) []) clN).getD [],fieldsL s,(fGet (fieldsA (fieldsL s) []) clN).isSome,?_⟩
       refine zf Tryz.func131 ?_
       clear hf h he
       refine zg [(3,{grd:=[(3,true),(4,true),(5,true),(6,true),(7,true),(8,true),(9,true),(10,true)],cs:=[(9,cb [0] c2)]}),(2,{cs:=[(2,cb [49] c1)]}),(6,{cs:=[(1,cb [49] c3)]}),(8,{cs:=[(1,cb [49] c4)]})] [false,true,true] [((0:Int)==(0:Int))=true,((0:Int)==(0:Int))=true,((0:Int)==(0:Int))=true,((0:Int)==(0:Int))=true,((0:Int)==(0:Int))=true,((0:Int)==(0:Int))=true,((0:Int)==(0:Int))=true,((0:Int)==(0:Int))=true,(bif (0:Int)==(0:Int) then !true else false)=false,((0:Int)==(0:Int))=true,((if true=true then (0:Int) else (3:Int))==(0:Int))=true] ⟨rfl,rfl,rfl,rfl,rfl,rfl,rfl,rfl,rfl,rfl,rfl⟩ ?_
       exact zb [49]
      ·rw [if_neg he] at h
       exact (he h).elim
theorem readsR_no (hL:HasLen G) (s:List UInt8) (hl:s.length<1000000000) (h:(readH tellB s).2≠0):∃ (f b z:List UInt8) (hd:List FT) (l:List (List UInt8)) (d:Bool),FnB Tryz.prog G 131 [.box 69 [.int .i64 0,.nilsl,.str []]] [.c (.str s),.c (clo1 132 (.ptr 0 0))] [.c (.ptr 1 0),.c (.int .i64 (readH tellB s).2)] [(1,rdB f (encH hd) b (encL l) z d)]:=by
 have hb:(hdC s).2.1.length≤s.length:=(cut_len s [13,10,13,10]).2
 cases hbig:bigH s with
 | true =>
  rw [readH_no1 hbig]
  refine ⟨[],[],[],[],[],false,?_⟩
  refine zf Tryz.func131 ?_
  have c1:=rcut_big hL s hl hbig
  refine zg [(2,{cs:=[(2,cb [49] c1)]}),(3,{grd:=[(3,false),(4,false),(5,false),(6,false),(7,false),(8,false),(9,false),(10,false),(11,false)]})] [false,false,false] [((4:Int)==(0:Int)) = !true,((4:Int)==(0:Int)) = !true,((4:Int)==(0:Int)) = !true,((4:Int)==(0:Int)) = !true,((4:Int)==(0:Int)) = !true,((4:Int)==(0:Int)) = !true,((4:Int)==(0:Int)) = !true,((4:Int)==(0:Int)) = !true,((4:Int)==(0:Int))=false,false=false,((4:Int)==(0:Int))=false,((4:Int)==(0:Int))=false] ⟨rfl,rfl,rfl,rfl,rfl,rfl,rfl,rfl,rfl,rfl,rfl,rfl⟩ ?_
  exact zb [49]
 | false =>
  cases hi:(hdC s).2.2 with
  | false =>
   rw [readH_no2 hbig hi]
   refine ⟨[],[],[],[],[],false,?_⟩
   refine zf Tryz.func131 ?_
   have c1:=rcut_form hL s hl hbig hi
   refine zg [(2,{cs:=[(2,cb [49] c1)]}),(3,{grd:=[(3,false),(4,false),(5,false),(6,false),(7,false),(8,false),(9,false),(10,false),(11,false)]})] [false,false,false] [((3:Int)==(0:Int)) = !true,((3:Int)==(0:Int)) = !true,((3:Int)==(0:Int)) = !true,((3:Int)==(0:Int)) = !true,((3:Int)==(0:Int)) = !true,((3:Int)==(0:Int)) = !true,((3:Int)==(0:Int)) = !true,((3:Int)==(0:Int)) = !true,((3:Int)==(0:Int))=false,false=false,((3:Int)==(0:Int))=false,((3:Int)==(0:Int))=false] ⟨rfl,rfl,rfl,rfl,rfl,rfl,rfl,rfl,rfl,rfl,rfl,rfl⟩ ?_
   exact zb [49]
  | true =>
   by_cases hm:(linesH s).length>25
   ·rw [readH_no3 hbig hi hm]
    refine ⟨[],(hdC s).2.1,[],[],linesH s,false,?_⟩
    refine zf Tryz.func131 ?_
    have c1:=rcut_many hL s hl hbig hi hm
    refine zg [(2,{cs:=[(2,cb [49] c1)]}),(3,{grd:=[(3,false),(4,false),(5,false),(6,false),(7,false),(8,false),(9,false),(10,false),(11,false)]})] [false,false,false] [((4:Int)==(0:Int)) = !true,((4:Int)==(0:Int)) = !true,((4:Int)==(0:Int)) = !true,((4:Int)==(0:Int)) = !true,((4:Int)==(0:Int)) = !true,((4:Int)==(0:Int)) = !true,((4:Int)==(0:Int)) = !true,((4:Int)==(0:Int)) = !true,((4:Int)==(0:Int))=false,false=false,((4:Int)==(0:Int))=false,((4:Int)==(0:Int))=false] ⟨rfl,rfl,rfl,rfl,rfl,rfl,rfl,rfl,rfl,rfl,rfl,rfl⟩ ?_
    exact zb [49]
   ·have hsp:=splitH_yes hbig hi hm
    have c1:=rcut_yes hL s hl hbig hi oM
    have hfs:=first_sm s
    have hfl:=fldsL_sm s
    have hcl:=cl_sm s
    have hfn:(fieldsL s).length<1000000:=by unfold fieldsL;rw [List.length_drop];omega
    have hfe:∀ k,((fieldsL s).getD k []).length<1000000000:=fun k=>by
     rw [List.getD_eq_getElem?_getD]
     cases hx:(fieldsL s)[k]? with
     | none=>show 0<_; omega
     | some x=>have:=hfl x (List.mem_of_getElem? hx); simp; omega
    have c2:=tellL_ok hL (firstH s) 0 oM
    cases hf:tellB (firstH s) with
    | false =>
     rw [readH_line hsp hf]
     rw [hf] at c2
     refine ⟨firstH s,(hdC s).2.1,[],[],fieldsL s,false,?_⟩
     refine zf Tryz.func131 ?_
     clear hf
     refine zg [(3,{grd:=[(3,true),(4,true),(5,true),(6,true),(7,true),(8,true),(9,true),(10,true)],cs:=[(9,cb [0] c2)]}),(2,{cs:=[(2,cb [49] c1)]})] [true,false,false] [((0:Int)==(0:Int))=true,((0:Int)==(0:Int))=true,((0:Int)==(0:Int))=true,((0:Int)==(0:Int))=true,((0:Int)==(0:Int))=true,((0:Int)==(0:Int))=true,((0:Int)==(0:Int))=true,((0:Int)==(0:Int))=true,(bif (0:Int)==(0:Int) then !false else false)=true,((3:Int)==(0:Int))=false,((3:Int)==(0:Int))=false] ⟨rfl,rfl,rfl,rfl,rfl,rfl,rfl,rfl,rfl,rfl,rfl⟩ ?_
     refine Wp.ent' kR (Ent.blkE (id:=49) (b:=rdB (firstH s) .nilsl (hdC s).2.1 (encL (fieldsL s)) [] false) (b':=rdB (firstH s) (encH []) (hdC s).2.1 (encL (fieldsL s)) [] false) kR (rdz_eqv _ _ _) rfl) ?_
     exact zb [49]
    | true =>
     rw [hf] at c2
     have c3:=rfields_ok hL (firstH s) (hdC s).2.1 (fieldsL s) hfe hfn
     cases hO:fieldsO (fieldsL s) [] with
     | false =>
      rw [readH_flds hsp hf hO]
      rw [hO] at c3
      refine ⟨firstH s,(hdC s).2.1,(fGet (fieldsA (fieldsL s) []) clN).getD [],(fieldsA (fieldsL s) []).filter notCl,fieldsL s,(fGet (fieldsA (fieldsL s) []) clN).isSome,?_⟩
      refine zf Tryz.func131 ?_
      clear hf h
      refine zg [(3,{grd:=[(3,true),(4,true),(5,true),(6,true),(7,true),(8,true),(9,true),(10,true)],cs:=[(9,cb [0] c2)]}),(2,{cs:=[(2,cb [49] c1)]}),(6,{cs:=[(1,cb [49] c3)]})] [false,true,false] [((0:Int)==(0:Int))=true,((0:Int)==(0:Int))=true,((0:Int)==(0:Int))=true,((0:Int)==(0:Int))=true,((0:Int)==(0:Int))=true,((0:Int)==(0:Int))=true,((0:Int)==(0:Int))=true,((0:Int)==(0:Int))=true,(bif (0:Int)==(0:Int) then !true else false)=false,((0:Int)==(0:Int))=true,((if false=true then (0:Int) else (3:Int))==(0:Int))=false] ⟨rfl,rfl,rfl,rfl,rfl,rfl,rfl,rfl,rfl,rfl,rfl⟩ ?_
      exact zb [49]
     | true =>
      rw [readH_end hsp hf hO] at h ⊢
      rw [hO] at c3
      have c4:=rsized_ok (G:=G) (firstH s) (hdC s).2.1 ((fGet (fieldsA (fieldsL s) []) clN).getD []) (fGet (fieldsA (fieldsL s) []) clN).isSome ((fieldsA (fieldsL s) []).filter notCl) (fieldsL s) oM oM
      rw [show szE ((fGet (fieldsA (fieldsL s) []) clN).getD []) (fGet (fieldsA (fieldsL s) []) clN).isSome (hdC s).2.1=bodyE (fieldsA (fieldsL s) []) (hdC s).2.1 from rfl] at c4
      by_cases he:bodyE (fieldsA (fieldsL s) []) (hdC s).2.1=0
      ·rw [if_pos he] at h
       exact (h rfl).elim
      ·rw [if_neg he]
       refine ⟨firstH s,(hdC s).2.1,(fGet (fieldsA (fieldsL s) []) clN).getD [],(fieldsA (fieldsL s) []).filter notCl,fieldsL s,(fGet (fieldsA (fieldsL s) []) clN).isSome,?_⟩
       refine zf Tryz.func131 ?_
       clear hf h
       refine zg [(3,{grd:=[(3,true),(4,true),(5,true),(6,true),(7,true),(8,true),(9,true),(10,true)],cs:=[(9,cb [0] c2)]}),(2,{cs:=[(2,cb [49] c1)]}),(6,{cs:=[(1,cb [49] c3)]}),(8,{cs:=[(1,cb [49] c4)]})] [false,true,true] [((0:Int)==(0:Int))=true,((0:Int)==(0:Int))=true,((0:Int)==(0:Int))=true,((0:Int)==(0:Int))=true,((0:Int)==(0:Int))=true,((0:Int)==(0:Int))=true,((0:Int)==(0:Int))=true,((0:Int)==(0:Int))=true,(bif (0:Int)==(0:Int) then !true else false)=false,((0:Int)==(0:Int))=true,((if true=true then (0:Int) else (3:Int))==(0:Int))=true] ⟨rfl,rfl,rfl,rfl,rfl,rfl,rfl,rfl,rfl,rfl,rfl⟩ ?_
       exact zb [49]
theorem readsR_yes (hL:HasLen G) (s:List UInt8) (hl:s.length<1000000000) (h:(readH tellB s).2=0):∃ (f z:List UInt8) (l:List (List UInt8)) (d:Bool),FnB Tryz.prog G 131 [.box 69 [.int .i64 0,.nilsl,.str []]] [.c (.str s),.c (clo1 132 (.ptr 0 0))] [.c (.ptr 1 0),.c (.int .i64 0)] [(0,.box 69 [.int .i64 (tellN (firstH s)),.nilsl,.str []]),(1,rdB f (encH (readH tellB s).1) (hdC s).2.1 (encL l) z d)]:=by
 have hb:(hdC s).2.1.length≤s.length:=(cut_len s [13,10,13,10]).2
 cases hbig:bigH s with
 | true=>rw [readH_no1 hbig] at h; cases h
 | false =>
  cases hi:(hdC s).2.2 with
  | false=>rw [readH_no2 hbig hi] at h; cases h
  | true =>
   by_cases hm:(linesH s).length>25
   ·rw [readH_no3 hbig hi hm] at h;cases h
   ·have hsp:=splitH_yes hbig hi hm
    have c1:=rcut_yes hL s hl hbig hi oM
    have hfs:=first_sm s
    have hfl:=fldsL_sm s
    have hcl:=cl_sm s
    have hfn:(fieldsL s).length<1000000:=by unfold fieldsL;rw [List.length_drop];omega
    have hfe:∀ k,((fieldsL s).getD k []).length<1000000000:=fun k=>by
     rw [List.getD_eq_getElem?_getD]
     cases hx:(fieldsL s)[k]? with
     | none=>show 0<_; omega
     | some x=>have:=hfl x (List.mem_of_getElem? hx); simp; omega
    have c2:=tellL_ok hL (firstH s) 0 oM
    cases hf:tellB (firstH s) with
    | false=>rw [readH_line hsp hf] at h; cases h
    | true =>
     rw [hf] at c2
     have c3:=rfields_ok hL (firstH s) (hdC s).2.1 (fieldsL s) hfe hfn
     cases hO:fieldsO (fieldsL s) [] with
     | false=>rw [readH_flds hsp hf hO] at h; cases h
     | true =>
      rw [readH_end hsp hf hO] at h ⊢
      rw [hO] at c3
      have c4:=rsized_ok (G:=G) (firstH s) (hdC s).2.1 ((fGet (fieldsA (fieldsL s) []) clN).getD []) (fGet (fieldsA (fieldsL s) []) clN).isSome ((fieldsA (fieldsL s) []).filter notCl) (fieldsL s) oM oM
      rw [show szE ((fGet (fieldsA (fieldsL s) []) clN).getD []) (fGet (fieldsA (fieldsL s) []) clN).isSome (hdC s).2.1=bodyE (fieldsA (fieldsL s) []) (hdC s).2.1 from rfl] at c4
      by_cases he:bodyE (fieldsA (fieldsL s) []) (hdC s).2.1=0
      ·rw [if_pos he]
       rw [he] at c4
       refine ⟨firstH s,(fGet (fieldsA (fieldsL s) []) clN).getD [],fieldsL s,(fGet (fieldsA (fieldsL s) []) clN).isSome,?_⟩
       refine zf Tryz.func131 ?_
       clear hf h he
       refine zg [(3,{grd:=[(3,true),(4,true),(5,true),(6,true),(7,true),(8,true),(9,true),(10,true)],cs:=[(9,cb [0] c2)]}),(2,{cs:=[(2,cb [49] c1)]}),(6,{cs:=[(1,cb [49] c3)]}),(8,{cs:=[(1,cb [49] c4)]})] [false,true,true] [((0:Int)==(0:Int))=true,((0:Int)==(0:Int))=true,((0:Int)==(0:Int))=true,((0:Int)==(0:Int))=true,((0:Int)==(0:Int))=true,((0:Int)==(0:Int))=true,((0:Int)==(0:Int))=true,((0:Int)==(0:Int))=true,(bif (0:Int)==(0:Int) then !true else false)=false,((0:Int)==(0:Int))=true,((if true=true then (0:Int) else (3:Int))==(0:Int))=true] ⟨rfl,rfl,rfl,rfl,rfl,rfl,rfl,rfl,rfl,rfl,rfl⟩ ?_
       exact zb [49]
      ·rw [if_neg he] at h
       exact (he h).elim
theorem parseQ_ok (hL:HasLen G) (s:List UInt8) (hl:s.length<1000000000):Pur Tryz.prog G 148 [.c (.str s)] [.agg (encQ (parseQ s).1),.c (.int .i64 (parseQ s).2)]:=by
 have e0:EqvD (.agg [.str [],.str [],.nilsl,.str []]) (.agg (encQ QT.nil)):=agg_eqv (.cons CEq.rfl' (.cons CEq.rfl' (.cons CEq.nil (.cons CEq.rfl' .nil))))
 cases hr:decide ((readH askB s).2=0) with
 | false =>
  have hr:=of_decide_eq_false hr
  obtain ⟨f,b,z,hd,l,d,c⟩:=readsQ_no hL s hl hr
  have hp:parseQ s=(QT.nil,(readH askB s).2):=by unfold parseQ;rw [if_neg hr]
  rw [hp]
  have ht:((readH askB s).2 != 0)=true:=bne_iff_ne.2 hr
  generalize (readH askB s).2=e at c ht
  clear hr hp
  refine zp Tryz.func148 ?_
  refine zg [(2,{cs:=[(2,cb [32] c)],fm:=[(1,.c (clo1 200 (.ptr 32 0)))]}),(4,{fm:=[(0,.agg (encQ QT.nil))]})] [true] [EqvI (.c (cloRaw 200 [.c (.ptr 32 0)])) (.c (clo1 (200:FuncId) (.ptr 32 0))),EqvD (.c (cloRaw 200 [.c (.ptr 32 0)])) (.c (clo1 (200:FuncId) (.ptr 32 0))),(e != (0:Int))=true,EqvI (.agg [.str [],.str [],.nilsl,.str []]) (.agg (encQ QT.nil)),EqvD (.agg [.str [],.str [],.nilsl,.str []]) (.agg (encQ QT.nil))] ⟨clo1_I _ _,clo1_D _ _,aS,eqvI_flat _ _ kR,(show EqvD (.agg [.str [],.str [],.nilsl,.str []]) (.agg (encQ QT.nil)) from aS)⟩ ?_
  exact zr
 | true =>
  have hr:=of_decide_eq_true hr
  obtain ⟨f,z,l,d,c⟩:=readsQ_yes hL s hl hr
  have hp:parseQ s=(⟨askM (firstH s),askT (firstH s),(readH askB s).1,(hdC s).2.1⟩,0):=by unfold parseQ;rw [if_pos hr]
  rw [hp]
  have ht:((0:Int) != 0)=false:=rfl
  generalize (readH askB s).1=H at c
  clear hr hp
  refine zp Tryz.func148 ?_
  refine zg [(2,{cs:=[(2,cb [32] c)],fm:=[(1,.c (clo1 200 (.ptr 32 0)))]})] [false] [EqvI (.c (cloRaw 200 [.c (.ptr 32 0)])) (.c (clo1 (200:FuncId) (.ptr 32 0))),EqvD (.c (cloRaw 200 [.c (.ptr 32 0)])) (.c (clo1 (200:FuncId) (.ptr 32 0))),((0:Int) != (0:Int))=false] ⟨clo1_I _ _,clo1_D _ _,rfl⟩ ?_
  exact zr
theorem parseR_ok (hL:HasLen G) (s:List UInt8) (hl:s.length<1000000000):Pur Tryz.prog G 81 [.c (.str s)] [.agg (encT (parseR s).1),.c (.int .i64 (parseR s).2)]:=by
 have e0:EqvD (.agg [.int .i64 0,.nilsl,.str []]) (.agg (encT nilR)):=agg_eqv (.cons CEq.rfl' (.cons CEq.nil (.cons CEq.rfl' .nil)))
 cases hr:decide ((readH tellB s).2=0) with
 | false =>
  have hr:=of_decide_eq_false hr
  obtain ⟨f,b,z,hd,l,d,c⟩:=readsR_no hL s hl hr
  have hp:parseR s=(nilR,(readH tellB s).2):=by unfold parseR;rw [if_neg hr]
  rw [hp]
  have ht:((readH tellB s).2 != 0)=true:=bne_iff_ne.2 hr
  generalize (readH tellB s).2=e at c ht
  clear hr hp
  refine zp Tryz.func81 ?_
  refine zg [(2,{cs:=[(2,cb [32] c)],fm:=[(1,.c (clo1 132 (.ptr 32 0)))]}),(4,{fm:=[(0,.agg (encT nilR))]})] [true] [EqvI (.c (cloRaw 132 [.c (.ptr 32 0)])) (.c (clo1 (132:FuncId) (.ptr 32 0))),EqvD (.c (cloRaw 132 [.c (.ptr 32 0)])) (.c (clo1 (132:FuncId) (.ptr 32 0))),(e != (0:Int))=true,EqvI (.agg [.int .i64 0,.nilsl,.str []]) (.agg (encT nilR)),EqvD (.agg [.int .i64 0,.nilsl,.str []]) (.agg (encT nilR))] ⟨clo1_I _ _,clo1_D _ _,aS,eqvI_flat _ _ kR,(show EqvD (.agg [.int .i64 (0:Int),.nilsl,.str []]) (.agg (encT nilR)) from aS)⟩ ?_
  exact zr
 | true =>
  have hr:=of_decide_eq_true hr
  obtain ⟨f,z,l,d,c⟩:=readsR_yes hL s hl hr
  have hp:parseR s=(⟨tellN (firstH s),(readH tellB s).1,(hdC s).2.1⟩,0):=by unfold parseR;rw [if_pos hr]
  rw [hp]
  have ht:((0:Int) != 0)=false:=rfl
  generalize (readH tellB s).1=H at c
  clear hr hp
  refine zp Tryz.func81 ?_
  refine zg [(2,{cs:=[(2,cb [32] c)],fm:=[(1,.c (clo1 132 (.ptr 32 0)))]})] [false] [EqvI (.c (cloRaw 132 [.c (.ptr 32 0)])) (.c (clo1 (132:FuncId) (.ptr 32 0))),EqvD (.c (cloRaw 132 [.c (.ptr 32 0)])) (.c (clo1 (132:FuncId) (.ptr 32 0))),((0:Int) != (0:Int))=false] ⟨clo1_I _ _,clo1_D _ _,rfl⟩ ?_
  exact zr
end Go.Proofs.Tw
end
section

end
section

end
section
open Go Go.Sv Go.RowKit
namespace Go.Proofs.Tw
attribute [local irreducible] Wp FinQ resV Ent Pur Go.Sv.Fn Sat0
set_option maxRecDepth 100000
set_option maxHeartbeats 4000000
variable {G:Nat→Option (List Cell)} [Back G]
theorem idx_at (a t r:List UInt8) (c:UInt8) (h:c∉a):Lib.index (a++(c::r)++t) (c::r)=a.length:=by
 refine Lib.index_first (by simp only [List.length_append];omega) ?_ (fun j hj => ?_)
 ·unfold Lib.occAt
  rw [List.append_assoc,List.drop_left]
  exact List.isPrefixOf_iff_prefix.2 (List.prefix_append _ _)
 ·unfold Lib.occAt
  have hx:(a++(c::r)++t).drop j=a.getD j 0::(a++(c::r)++t).drop (j+1):=by
   rw [dropS _ j (by simp only [List.length_append];omega)]
   congr 1
   rw [List.append_assoc,List.getD_eq_getElem?_getD,List.getD_eq_getElem?_getD,List.getElem?_append_left hj]
  rw [hx,List.isPrefixOf]
  have:(c==a.getD j 0)=false:=by
   rw [beq_eq_false_iff_ne]
   rintro rfl
   exact h (by rw [List.getD_eq_getElem?_getD,List.getElem?_eq_getElem hj];exact List.getElem_mem hj)
  rw [this];rfl
theorem cut_at (a t r:List UInt8) (c:UInt8) (h:c∉a):Lib.cut (a++(c::r)++t) (c::r)=(a,t,true):=by
 unfold Lib.cut
 rw [idx_at a t r c h,if_pos oM]
 have e:((a.length:Nat):Int).toNat=a.length:=by omega
 rw [e,List.append_assoc,List.take_left,← List.append_assoc,show a.length+(c::r).length=(a++(c::r)).length from by simp,List.drop_left]
theorem cut_true {s p:List UInt8} (h:(Lib.cut s p).2.2=true):s=(Lib.cut s p).1++p++(Lib.cut s p).2.1:=by
 unfold Lib.cut at h ⊢
 split
 ·rename_i h0
  rw [if_pos h0] at h
  have ho:Lib.occAt s p (Lib.index s p).toNat=true:=by
   rcases Lib.index_spec s p with ⟨h1,_⟩ | ⟨i,h1,_,h2,_⟩
   ·rw [h1] at h0;exact absurd h0 dC
   ·rw [h1,show ((i:Nat):Int).toNat=i from by omega];exact h2
  generalize (Lib.index s p).toNat=i at ho
  have hp:=List.isPrefixOf_iff_prefix.1 ho
  obtain ⟨t,ht⟩:=hp
  show s=s.take i++p++s.drop (i+p.length)
  have h2:s.drop (i+p.length)=t:=by rw [← List.drop_drop,← ht,List.drop_left]
  rw [h2,List.append_assoc,ht,List.take_append_drop]
 ·rename_i h0
  rw [if_neg h0] at h
  cases h
def cntT (s:List UInt8):Int:=if numK 9 s then ((nv s:Nat):Int) else -1
theorem cnt_end {s:List UInt8} (hd:s.all digitB=true) (h9:s.length≤9):(Lib.decDigits (nv s)==s)=numK 9 s:=by
 cases h:canonB s with
 | true =>
  rw [canon_back s.length s rfl h]
  unfold numK
  rw [h,decide_eq_true h9]
  simp
 | false =>
  have:numK 9 s=false:=by unfold numK;rw [h,Bool.and_false]
  rw [this,beq_eq_false_iff_ne]
  intro e
  have:=canon_dec (nv s)
  rw [e,h] at this
  cases this
theorem count_ok (s:List UInt8) (hl:s.length<1000000000):Pur Tryz.prog G 109 [.c (.str s)] [.c (.int .i64 (cntT s))]:=by
 refine zp Tryz.func109 ?_
 refine z0 [] [] ?_
 refine zl (fun (x:Nat×Nat)=>⟨[(0,.v (.c (.str s))),(3,.v (.c (.int .i64 (x.2:Int)))),(4,.v (.c (.int .i64 (x.1:Int))))],[],48⟩) (fun x=>x.1≤s.length∧x.2=nv (s.take x.1)∧(s.take x.1).all digitB=true∧(0<x.1→s.length≤9)) (fun x=>s.length-x.1) (0,0) ⟨Nat.zero_le _,rfl,rfl,fun h=>absurd h (Nat.lt_irrefl _)⟩ ?_
 rintro ⟨k,n⟩ L ⟨hk,hn,hd,h9⟩ again
 simp only at hk hn hd h9
 rcases Nat.lt_or_ge k s.length with hlt | hge
 ·have c:=digit6_ok (G:=G) (s.getD k 0)
  have hlim:n<10^k:=by rw [hn];exact nv_lt k _ (by rw [List.length_take];omega) hd
  have hmem:s.getD k 0∈s:=by simp [List.getD,hlt]
  cases hdk:digitB (s.getD k 0) with
  | false =>
   have hno:numK 9 s=false:=by
    unfold numK canonB
    rw [show s.all digitB=false from by rw [List.all_eq_false];exact ⟨_,hmem,by rw [hdk];decide⟩]
    simp
   have hq:cntT s = -1:=by unfold cntT;rw [hno];rfl
   rw [hq]
   rw [hdk] at c
   have ht:(bif !false then true else decide ((s.length:Int)>9))=true:=rfl
   clear hlim hno hq hdk again
   refine zg [(5,{cs:=[(3,pc c)]})] [true,true] [decide ((k:Int)<(s.length:Int))=true,(0:Int)≤(k:Int)∧(k:Int)<(s.length:Int),(bif !false then true else decide ((s.length:Int)>(9:Int)))=true] ⟨sO,oM,rfl⟩ ?_
   exact zr
  | true =>
   rw [hdk] at c
   by_cases h10:s.length≤9
   ·have hb:=dig_to hdk
    have hn2:n*10+((s.getD k 0).toNat-48)=nv (s.take (k+1)):=by rw [List.take_succ_eq_append_getElem hlt,nv_snoc,← hn];simp [List.getD,hlt]
    have hd2:(s.take (k+1)).all digitB=true:=by
     rw [List.take_succ_eq_append_getElem hlt,List.all_append,hd]
     have:digitB s[k]=true:=by rw [← hdk];simp [List.getD,hlt]
     simp [this]
    have ew:IntKind.u8.wrap (((s.getD k 0).toNat:Int)-48)=(((s.getD k 0).toNat-48:Nat):Int):=by rw [wrap8 oM oM];omega
    have ew2:IntKind.i64.wrap (((s.getD k 0).toNat-48:Nat):Int)=(((s.getD k 0).toNat-48:Nat):Int):=wrap64 oM oM
    have e7:EqvD (.c (.int .u8 (IntKind.u8.wrap (((s.getD k 0).toNat:Int)-48)))) (.c (.int .u8 (((s.getD k 0).toNat-48:Nat):Int))):=eqvD_of (by rw [ew])
    have e8:EqvD (.c (.int .i64 (IntKind.i64.wrap (((s.getD k 0).toNat-48:Nat):Int)))) (.c (.int .i64 (((s.getD k 0).toNat-48:Nat):Int))):=eqvD_of (by rw [ew2])
    have e9:EqvD (.c (.int .i64 ((n:Int)*10+(((s.getD k 0).toNat-48:Nat):Int)))) (.c (.int .i64 ((n*10+((s.getD k 0).toNat-48):Nat):Int))):=eqvD_of (by rw [show (n:Int)*10+(((s.getD k 0).toNat-48:Nat):Int)=((n*10+((s.getD k 0).toNat-48):Nat):Int) from by omega])
    have hlim2:n<1000000000:=Nat.lt_of_lt_of_le hlim (Nat.pow_le_pow_right (n:=10) dC (show k≤9 by omega))
    have ht:(bif !true then true else decide ((s.length:Int)>9))=false:=by simp;omega
    have h9':0<k+1→s.length≤9:=fun _=>h10
    clear hlim ew ew2 hn hd hdk h9
    refine zg [(7,{fm:=[(5,.c (.int .u8 (((s.getD k 0).toNat-48:Nat):Int))),(6,.c (.int .i64 (((s.getD k 0).toNat-48:Nat):Int))),(7,.c (.int .i64 ((n*10+((s.getD k 0).toNat-48):Nat):Int)))]}),(5,{cs:=[(3,pc c)]})] [true,false] [decide ((k:Int)<(s.length:Int))=true,(0:Int)≤(k:Int)∧(k:Int)<(s.length:Int),(bif !true then true else decide ((s.length:Int)>(9:Int)))=false,inR .i64 ((n:Int)*10),(0:Int)≤(k:Int)∧(k:Int)<(s.length:Int),EqvI (.c (.int .u8 (IntKind.u8.wrap ((↑(s.getD k (0:UInt8)).toNat:Int)-(48:Int))))) (.c (.int .u8 (↑((s.getD k (0:UInt8)).toNat-(48:Nat)):Int))),EqvD (.c (.int .u8 (IntKind.u8.wrap ((↑(s.getD k (0:UInt8)).toNat:Int)-(48:Int))))) (.c (.int .u8 (↑((s.getD k (0:UInt8)).toNat-(48:Nat)):Int))),EqvI (.c (.int .i64 (IntKind.i64.wrap (↑((s.getD k (0:UInt8)).toNat-(48:Nat)):Int)))) (.c (.int .i64 (↑((s.getD k (0:UInt8)).toNat-(48:Nat)):Int))),EqvD (.c (.int .i64 (IntKind.i64.wrap (↑((s.getD k (0:UInt8)).toNat-(48:Nat)):Int)))) (.c (.int .i64 (↑((s.getD k (0:UInt8)).toNat-(48:Nat)):Int))),EqvI (.c (.int .i64 ((n:Int)*(10:Int)+(↑((s.getD k (0:UInt8)).toNat-(48:Nat)):Int)))) (.c (.int .i64 (↑(n*(10:Nat)+((s.getD k (0:UInt8)).toNat-(48:Nat))):Int))),EqvD (.c (.int .i64 ((n:Int)*(10:Int)+(↑((s.getD k (0:UInt8)).toNat-(48:Nat)):Int)))) (.c (.int .i64 (↑(n*(10:Nat)+((s.getD k (0:UInt8)).toNat-(48:Nat))):Int))),inR .i64 ((n:Int)*(10:Int)+(↑((s.getD k (0:UInt8)).toNat-(48:Nat)):Int)),inR .i64 ((k:Int)+1)] ⟨sO,oM,aS,i6,oM,fun _ _=>trivial,aS,fun _ _=>trivial,aS,fun _ _=>trivial,aS,i6,i6⟩ ?_
    exact za [] (again _ (k+1,n*10+((s.getD k 0).toNat-48)) ⟨aS,⟨aS,⟨aS,aS⟩⟩⟩ oM)
   ·have hno:numK 9 s=false:=by
     unfold numK
     rw [decide_eq_false h10]
     rfl
    have hq:cntT s = -1:=by unfold cntT;rw [hno];rfl
    rw [hq]
    have ht:(bif !true then true else decide ((s.length:Int)>9))=true:=by simp;omega
    clear hlim hno hq hdk again
    refine zg [(5,{cs:=[(3,pc c)]})] [true,true] [decide ((k:Int)<(s.length:Int))=true,(0:Int)≤(k:Int)∧(k:Int)<(s.length:Int),(bif !true then true else decide ((s.length:Int)>(9:Int)))=true] ⟨sO,oM,(show (bif !true then true else decide ((↑s.length:Int)>(9:Int)))=true from aS)⟩ ?_
    exact zr
 ·rw [List.take_of_length_le hge] at hn hd
  by_cases he:s=[]
  ·subst he
   have hq:cntT [] = -1:=by unfold cntT;rfl
   rw [hq]
   have hn0:n=0:=hn
   subst hn0
   have c:Pur Tryz.prog G 163 [.c (.int .i64 ((0:Nat):Int))] [.c (.str (Lib.decDigits 0))]:=dig_nat 0 oM
   have hb:(!(Lib.decDigits 0==[]))=true:=by
    have:=dec_ne 0
    cases h:Lib.decDigits 0 with
    | nil=>exact (this h).elim
    | cons a b=>rfl
   clear again hd hn
   refine zg [(8,{cs:=[(1,pc c)]})] [false,true] [decide ((k:Int)<(↑([]:List UInt8).length:Int))=false,(!Lib.decDigits 0==[])=true] ⟨rfl,(show (!Lib.decDigits (0:Nat)==[])=true from aS)⟩ ?_
   exact zr
  ·have hpos:0<s.length:=List.length_pos_iff.2 he
   have h9':=h9 oM
   have hend:=cnt_end hd h9'
   rw [← hn] at hend
   have hlim:n<1000000000:=by rw [hn];exact Nat.lt_of_lt_of_le (nv_lt 9 s h9' hd) dC
   have c:=dig_nat (G:=G) n oM
   unfold cntT
   rw [← hn]
   cases hk9:numK 9 s with
   | true =>
    rw [hk9] at hend
    rw [if_pos rfl]
    have hb:(!(Lib.decDigits n==s))=false:=by rw [hend];rfl
    clear again hd hn hend h9
    refine zg [(8,{cs:=[(1,pc c)]})] [false,false] [decide ((k:Int)<(s.length:Int))=false,(!Lib.decDigits n==s)=false] ⟨sO,(show (!Lib.decDigits n==s)=false from aS)⟩ ?_
    exact zr
   | false =>
    rw [hk9] at hend
    rw [if_neg dC]
    have hb:(!(Lib.decDigits n==s))=true:=by rw [hend];rfl
    clear again hd hn hend h9
    refine zg [(8,{cs:=[(1,pc c)]})] [false,true] [decide ((k:Int)<(s.length:Int))=false,(!Lib.decDigits n==s)=true] ⟨sO,(show (!Lib.decDigits n==s)=true from aS)⟩ ?_
    exact zr
theorem method13_ok (s:List UInt8) (hl:s.length<4611686018427387904):Pur Tryz.prog G 104 [.c (.str s)] [.c (.bool (methT s))]:=by
 refine zp Tryz.func104 ?_
 refine z0 [] [] ?_
 refine zl (fun (k:Nat)=>⟨[(0,.v (.c (.str s))),(3,.v (.c (.int .i64 (k:Int))))],[],32⟩) (fun k=>k≤s.length∧s.all greatB=(s.drop k).all greatB) (fun k=>s.length-k) 0 ⟨Nat.zero_le _,rfl⟩ ?_
 intro k L ⟨hk,hq⟩ again
 rcases Nat.lt_or_ge k s.length with hlt | hge
 ·rw [dropS s k hlt,List.all_cons] at hq
  have hb:(bif decide (((s.getD k (0:UInt8)).toNat:Int)<65) then true else decide (((s.getD k (0:UInt8)).toNat:Int)>90)) = !greatB (s.getD k (0:UInt8)):=by_fun (fun c=>bif decide ((c.toNat:Int)<65) then true else decide ((c.toNat:Int)>90)) (fun c => !greatB c) kR (s.getD k (0:UInt8))
  cases hg:greatB (s.getD k 0) with
  | false =>
   rw [hg] at hb hq
   have hb:(bif decide (((s.getD k (0:UInt8)).toNat:Int)<65) then true else decide (((s.getD k (0:UInt8)).toNat:Int)>90))=true:=hb
   have hm:methT s=false:=by unfold methT;rw [hq];rfl
   rw [hm]
   clear hm again hq hg
   refine zg [] [true,true] [decide ((k:Int)<(s.length:Int))=true,(0:Int)≤(k:Int)∧(k:Int)<(s.length:Int),decide ((↑(s.getD k (0:UInt8)).toNat:Int)<(65:Int))=false→(0:Int)≤(k:Int)∧(k:Int)<(s.length:Int),(bif decide ((↑(s.getD k (0:UInt8)).toNat:Int)<(65:Int)) then true else decide ((↑(s.getD k (0:UInt8)).toNat:Int)>(90:Int)))=true] ⟨sO,oM,oM,(show (bif decide ((↑(s.getD k (0:UInt8)).toNat:Int)<(65:Int)) then true else decide ((↑(s.getD k (0:UInt8)).toNat:Int)>(90:Int)))=true from aS)⟩ ?_
   exact zr
  | true =>
   rw [hg,Bool.true_and] at hq
   rw [hg] at hb
   have hb:(bif decide (((s.getD k (0:UInt8)).toNat:Int)<65) then true else decide (((s.getD k (0:UInt8)).toNat:Int)>90))=false:=hb
   clear hg
   refine zg [] [true,false] [decide ((k:Int)<(s.length:Int))=true,(0:Int)≤(k:Int)∧(k:Int)<(s.length:Int),decide ((↑(s.getD k (0:UInt8)).toNat:Int)<(65:Int))=false→(0:Int)≤(k:Int)∧(k:Int)<(s.length:Int),(bif decide ((↑(s.getD k (0:UInt8)).toNat:Int)<(65:Int)) then true else decide ((↑(s.getD k (0:UInt8)).toNat:Int)>(90:Int)))=false,inR .i64 ((k:Int)+1)] ⟨sO,oM,oM,aS,i6⟩ ?_
   exact za [] (again _ (k+1) ⟨aS,aS⟩ oM)
 ·rw [List.drop_of_length_le hge,List.all_nil] at hq
  have hm:methT s=(bif decide ((s.length:Int)≥1) then decide ((s.length:Int)≤16) else false):=by
   unfold methT
   rw [hq,Bool.true_and,Bool.cond_false_right]
   congr 1
   ·exact decide_eq_decide.2 oM
   ·exact decide_eq_decide.2 oM
  rw [hm]
  clear hm hq again
  refine zg [] [false] [decide ((k:Int)<(s.length:Int))=false] (oN sO) ?_
  exact zr
theorem target13_ok (s:List UInt8) (hl:s.length<4611686018427387904):Pur Tryz.prog G 105 [.c (.str s)] [.c (.bool (targT s))]:=by
 refine zp Tryz.func105 ?_
 refine z0 [] [] ?_
 refine zl (fun (k:Nat)=>⟨[(0,.v (.c (.str s))),(3,.v (.c (.int .i64 (k:Int))))],[],32⟩) (fun k=>k≤s.length∧s.all tgB=(s.drop k).all tgB) (fun k=>s.length-k) 0 ⟨Nat.zero_le _,rfl⟩ ?_
 intro k L ⟨hk,hq⟩ again
 rcases Nat.lt_or_ge k s.length with hlt | hge
 ·rw [dropS s k hlt,List.all_cons] at hq
  have hb:(bif decide (((s.getD k (0:UInt8)).toNat:Int)<33) then true else decide (((s.getD k (0:UInt8)).toNat:Int)>126)) = !tgB (s.getD k (0:UInt8)):=by_fun (fun c=>bif decide ((c.toNat:Int)<33) then true else decide ((c.toNat:Int)>126)) (fun c => !tgB c) kR (s.getD k (0:UInt8))
  cases hg:tgB (s.getD k 0) with
  | false =>
   rw [hg] at hb hq
   have hb:(bif decide (((s.getD k (0:UInt8)).toNat:Int)<33) then true else decide (((s.getD k (0:UInt8)).toNat:Int)>126))=true:=hb
   have hm:targT s=false:=by unfold targT;rw [hq];rfl
   rw [hm]
   clear hm again hq hg
   refine zg [] [true,true] [decide ((k:Int)<(s.length:Int))=true,(0:Int)≤(k:Int)∧(k:Int)<(s.length:Int),decide ((↑(s.getD k (0:UInt8)).toNat:Int)<(33:Int))=false→(0:Int)≤(k:Int)∧(k:Int)<(s.length:Int),(bif decide ((↑(s.getD k (0:UInt8)).toNat:Int)<(33:Int)) then true else decide ((↑(s.getD k (0:UInt8)).toNat:Int)>(126:Int)))=true] ⟨sO,oM,oM,(show (bif decide ((↑(s.getD k (0:UInt8)).toNat:Int)<(33:Int)) then true else decide ((↑(s.getD k (0:UInt8)).toNat:Int)>(126:Int)))=true from aS)⟩ ?_
   exact zr
  | true =>
   rw [hg,Bool.true_and] at hq
   rw [hg] at hb
   have hb:(bif decide (((s.getD k (0:UInt8)).toNat:Int)<33) then true else decide (((s.getD k (0:UInt8)).toNat:Int)>126))=false:=hb
   clear hg
   refine zg [] [true,false] [decide ((k:Int)<(s.length:Int))=true,(0:Int)≤(k:Int)∧(k:Int)<(s.length:Int),decide ((↑(s.getD k (0:UInt8)).toNat:Int)<(33:Int))=false→(0:Int)≤(k:Int)∧(k:Int)<(s.length:Int),(bif decide ((↑(s.getD k (0:UInt8)).toNat:Int)<(33:Int)) then true else decide ((↑(s.getD k (0:UInt8)).toNat:Int)>(126:Int)))=false,inR .i64 ((k:Int)+1)] ⟨sO,oM,oM,aS,i6⟩ ?_
   exact za [] (again _ (k+1) ⟨aS,aS⟩ oM)
 ·rw [List.drop_of_length_le hge,List.all_nil] at hq
  have hm:targT s=(bif decide ((s.length:Int)≥1) then decide ((s.length:Int)≤1024) else false):=by
   unfold targT
   rw [hq,Bool.true_and,Bool.cond_false_right]
   congr 1
   ·exact decide_eq_decide.2 oM
   ·exact decide_eq_decide.2 oM
  rw [hm]
  clear hm hq again
  refine zg [] [false] [decide ((k:Int)<(s.length:Int))=false] (oN sO) ?_
  exact zr
def tok6:List UInt8:=[33,35,36,37,38,39,42,43,45,46,94,95,124,126]
theorem token6_ok (s:List UInt8) (hl:s.length<4611686018427387904):Pur Tryz.prog G 106 [.c (.str s)] [.c (.bool (tokenT s))]:=by
 refine zp Tryz.func106 ?_
 refine z0 [] [] ?_
 refine zl (fun (k:Nat)=>⟨[(0,.v (.c (.str s))),(3,.v (.c (.int .i64 (k:Int))))],[],32⟩) (fun k=>k≤s.length∧s.all tokenB=(s.drop k).all tokenB) (fun k=>s.length-k) 0 ⟨Nat.zero_le _,rfl⟩ ?_
 intro k L ⟨hk,hq⟩ again
 rcases Nat.lt_or_ge k s.length with hlt | hge
 ·rw [dropS s k hlt,List.all_cons] at hq
  have c1:=letter6_ok (G:=G) (s.getD k 0)
  have c2:=digit6_ok (G:=G) (s.getD k 0)
  have c3:=in6_ok (G:=G) (s.getD k 0) tok6 dC
  have hb:(bif bif bif !letterB (s.getD k 0) then !digitB (s.getD k 0) else false then !(tok6.contains (s.getD k 0)) else false then (((s.getD k 0).toNat:Int) != 96) else false) = !tokenB (s.getD k (0:UInt8)):=by_fun (fun c=>bif bif bif !letterB c then !digitB c else false then !(tok6.contains c) else false then ((c.toNat:Int) != 96) else false) (fun c => !tokenB c) kR (s.getD k (0:UInt8))
  cases hg:tokenB (s.getD k 0) with
  | false =>
   rw [hg] at hb hq
   have hb:(bif bif bif !letterB (s.getD k 0) then !digitB (s.getD k 0) else false then !(tok6.contains (s.getD k 0)) else false then (((s.getD k 0).toNat:Int) != 96) else false)=true:=hb
   have hm:tokenT s=false:=by unfold tokenT;rw [hq];simp
   rw [hm]
   clear hm again hq hg
   refine zg [(4,{cs:=[(3,pc c1),(9,pc c2),(16,pc c3)]})] [true,true] [decide ((k:Int)<(s.length:Int))=true,(0:Int)≤(k:Int)∧(k:Int)<(s.length:Int),(!letterB (s.getD k (0:UInt8)))=true→(0:Int)≤(k:Int)∧(k:Int)<(s.length:Int),(bif !letterB (s.getD k (0:UInt8)) then !digitB (s.getD k (0:UInt8)) else false)=true→(0:Int)≤(k:Int)∧(k:Int)<(s.length:Int),(bif bif !letterB (s.getD k (0:UInt8)) then !digitB (s.getD k (0:UInt8)) else false then !tok6.contains (s.getD k (0:UInt8)) else false)=true→(0:Int)≤(k:Int)∧(k:Int)<(s.length:Int),(bif bif bif !letterB (s.getD k (0:UInt8)) then !digitB (s.getD k (0:UInt8)) else false then !tok6.contains (s.getD k (0:UInt8)) else false then (↑(s.getD k (0:UInt8)).toNat:Int) != (96:Int) else false)=true] ⟨sO,oM,oM,oM,oM,(show (bif bif bif !letterB (s.getD k (0:UInt8)) then !digitB (s.getD k (0:UInt8)) else false then !tok6.contains (s.getD k (0:UInt8)) else false then (↑(s.getD k (0:UInt8)).toNat:Int) != (96:Int) else false)=true from aS)⟩ ?_
   exact zr
  | true =>
   rw [hg,Bool.true_and] at hq
   rw [hg] at hb
   have hb:(bif bif bif !letterB (s.getD k 0) then !digitB (s.getD k 0) else false then !(tok6.contains (s.getD k 0)) else false then (((s.getD k 0).toNat:Int) != 96) else false)=false:=hb
   clear hg
   refine zg [(4,{cs:=[(3,pc c1),(9,pc c2),(16,pc c3)]})] [true,false] [decide ((k:Int)<(s.length:Int))=true,(0:Int)≤(k:Int)∧(k:Int)<(s.length:Int),(!letterB (s.getD k (0:UInt8)))=true→(0:Int)≤(k:Int)∧(k:Int)<(s.length:Int),(bif !letterB (s.getD k (0:UInt8)) then !digitB (s.getD k (0:UInt8)) else false)=true→(0:Int)≤(k:Int)∧(k:Int)<(s.length:Int),(bif bif !letterB (s.getD k (0:UInt8)) then !digitB (s.getD k (0:UInt8)) else false then !tok6.contains (s.getD k (0:UInt8)) else false)=true→(0:Int)≤(k:Int)∧(k:Int)<(s.length:Int),(bif bif bif !letterB (s.getD k (0:UInt8)) then !digitB (s.getD k (0:UInt8)) else false then !tok6.contains (s.getD k (0:UInt8)) else false then (↑(s.getD k (0:UInt8)).toNat:Int) != (96:Int) else false)=false,inR .i64 ((k:Int)+1)] ⟨sO,oM,oM,oM,oM,aS,i6⟩ ?_
   exact za [] (again _ (k+1) ⟨aS,aS⟩ oM)
 ·rw [List.drop_of_length_le hge,List.all_nil] at hq
  have hm:tokenT s=decide ((s.length:Int)≥1):=by
   unfold tokenT
   rw [hq,Bool.and_true]
   cases s with
   | nil=>rfl
   | cons a r=>simp; omega
  rw [hm]
  clear hm hq again
  refine zg [] [false] [decide ((k:Int)<(s.length:Int))=false] (oN sO) ?_
  exact zr
theorem seen6_ok (s:List UInt8) (hl:s.length<4611686018427387904):Pur Tryz.prog G 107 [.c (.str s)] [.c (.bool (s.all seenB))]:=by
 refine zp Tryz.func107 ?_
 refine z0 [] [] ?_
 refine zl (fun (k:Nat)=>⟨[(0,.v (.c (.str s))),(3,.v (.c (.int .i64 (k:Int))))],[],32⟩) (fun k=>k≤s.length∧s.all seenB=(s.drop k).all seenB) (fun k=>s.length-k) 0 ⟨Nat.zero_le _,rfl⟩ ?_
 intro k L ⟨hk,hq⟩ again
 rcases Nat.lt_or_ge k s.length with hlt | hge
 ·rw [dropS s k hlt,List.all_cons] at hq
  have hb:(bif decide (((s.getD k (0:UInt8)).toNat:Int)<32) then true else decide (((s.getD k (0:UInt8)).toNat:Int)>126)) = !seenB (s.getD k (0:UInt8)):=by_fun (fun c=>bif decide ((c.toNat:Int)<32) then true else decide ((c.toNat:Int)>126)) (fun c => !seenB c) kR (s.getD k (0:UInt8))
  cases hg:seenB (s.getD k 0) with
  | false =>
   rw [hg] at hb hq
   have hb:(bif decide (((s.getD k (0:UInt8)).toNat:Int)<32) then true else decide (((s.getD k (0:UInt8)).toNat:Int)>126))=true:=hb
   rw [hq]
   clear again hq hg
   refine zg [] [true,true] [decide ((k:Int)<(s.length:Int))=true,(0:Int)≤(k:Int)∧(k:Int)<(s.length:Int),decide ((↑(s.getD k (0:UInt8)).toNat:Int)<(32:Int))=false→(0:Int)≤(k:Int)∧(k:Int)<(s.length:Int),(bif decide ((↑(s.getD k (0:UInt8)).toNat:Int)<(32:Int)) then true else decide ((↑(s.getD k (0:UInt8)).toNat:Int)>(126:Int)))=true] ⟨sO,oM,oM,(show (bif decide ((↑(s.getD k (0:UInt8)).toNat:Int)<(32:Int)) then true else decide ((↑(s.getD k (0:UInt8)).toNat:Int)>(126:Int)))=true from aS)⟩ ?_
   exact zr
  | true =>
   rw [hg,Bool.true_and] at hq
   rw [hg] at hb
   have hb:(bif decide (((s.getD k (0:UInt8)).toNat:Int)<32) then true else decide (((s.getD k (0:UInt8)).toNat:Int)>126))=false:=hb
   clear hg
   refine zg [] [true,false] [decide ((k:Int)<(s.length:Int))=true,(0:Int)≤(k:Int)∧(k:Int)<(s.length:Int),decide ((↑(s.getD k (0:UInt8)).toNat:Int)<(32:Int))=false→(0:Int)≤(k:Int)∧(k:Int)<(s.length:Int),(bif decide ((↑(s.getD k (0:UInt8)).toNat:Int)<(32:Int)) then true else decide ((↑(s.getD k (0:UInt8)).toNat:Int)>(126:Int)))=false,inR .i64 ((k:Int)+1)] ⟨sO,oM,oM,aS,i6⟩ ?_
   exact za [] (again _ (k+1) ⟨aS,aS⟩ oM)
 ·rw [List.drop_of_length_le hge,List.all_nil] at hq
  rw [hq]
  clear hq again
  refine zg [] [false] [decide ((k:Int)<(s.length:Int))=false] (oN sO) ?_
  exact zr
theorem great_p32 (c:UInt8) (h:greatB c=true):IntKind.u8.wrap ((c.toNat:Int)+32)=((foldB c).toNat:Int):=by
 have:∀ c:UInt8,(!(greatB c)||IntKind.u8.wrap ((c.toNat:Int)+32)==((foldB c).toNat:Int))=true:=byte_all _ kR
 have:=this c
 rw [h] at this
 exact eq_of_beq this
theorem fold6_ok (s:List UInt8) (hl:s.length≤140737488355328):Pur Tryz.prog G 108 [.c (.str s)] [.c (.str (foldT s))]:=by
 refine zp Tryz.func108 ?_
 refine zg [] [] [s.length≤140737488355328] hl ?_
 refine zl (fun (k:Nat)=>⟨[(3,.v (.c (.row (1:Nat) (32:Nat) (0:Nat) s.length))),(4,.v (.c (.int .i64 (k:Int))))],[(32,.row 5 (1:Nat) s.length (bytesF (foldN s k)))],80⟩) (fun k=>k≤s.length) (fun k=>s.length-k) 0 (Nat.zero_le _) ?_
 intro k L hk again
 rcases Nat.lt_or_ge k s.length with hlt | hge
 ·have e1:EqvD (V1.c (Cell.int .u8 (((foldN s k).getD (0+k) 0).toNat:Int))) (.c (.int .u8 ((s.getD k 0).toNat:Int))):=eqvD_of (by rw [Nat.zero_add,foldN_at s k hlt])
  have hb:(bif decide (((s.getD k (0:UInt8)).toNat:Int)≥65) then decide (((s.getD k (0:UInt8)).toNat:Int)≤90) else false)=greatB (s.getD k (0:UInt8)):=by_fun (fun c=>bif decide ((c.toNat:Int)≥65) then decide ((c.toNat:Int)≤90) else false) greatB (by kernel_rfl) (s.getD k (0:UInt8))
  cases hg:greatB (s.getD k 0) with
  | true =>
   rw [hg] at hb
   have e2:BlkEqv (.row 5 1 s.length (rowSet (bytesF (foldN s k)) (0+k) 0 1 [.int .u8 (IntKind.u8.wrap (((s.getD k 0).toNat:Int)+32))])) (.row 5 1 s.length (bytesF (foldN s (k+1)))):=by
    rw [foldN_succ s k hlt]
    exact bytes_set _ _ (great_p32 _ hg) (by rw [foldN_len];exact hlt)
   clear hg
   refine Wp.go (mx:=true) (fun _=>mixed) [(5,{fm:=[(3,.c (.int .u8 ((s.getD k 0).toNat:Int))),(9,.c (.int .u8 ((s.getD k 0).toNat:Int)))]}),(6,{fm:=[(5,.c (.int .u8 ((s.getD k 0).toNat:Int)))],bs:=[(8,Blk.row 5 1 s.length (bytesF (foldN s (k+1))))]})] 100 [true,true] [decide ((↑k:Int)<(↑s.length:Int))=true,(0:Int)≤(↑k:Int)∧(↑k:Int)<(↑s.length:Int),(0:Nat)+k<s.length,EqvD (V1.c (bytesF (foldN s k) ((0:Nat)+k) (0:Nat))) (V1.c (Cell.int .u8 (↑(s.getD k (0:UInt8)).toNat:Int))),decide ((↑(s.getD k (0:UInt8)).toNat:Int)≥(65:Int))=true→(0:Int)≤(↑k:Int)∧(↑k:Int)<(↑s.length:Int),decide ((↑(s.getD k (0:UInt8)).toNat:Int)≥(65:Int))=true→(0:Nat)+k<s.length,decide ((↑(s.getD k (0:UInt8)).toNat:Int)≥(65:Int))=true→EqvD (V1.c (bytesF (foldN s k) ((0:Nat)+k) (0:Nat))) (V1.c (Cell.int .u8 (↑(s.getD k (0:UInt8)).toNat:Int))),(bif decide ((↑(s.getD k (0:UInt8)).toNat:Int)≥(65:Int)) then decide ((↑(s.getD k (0:UInt8)).toNat:Int)≤(90:Int)) else false)=true,(0:Int)≤(↑k:Int)∧(↑k:Int)<(↑s.length:Int),(0:Nat)+k<s.length,EqvD (V1.c (bytesF (foldN s k) ((0:Nat)+k) (0:Nat))) (V1.c (Cell.int .u8 (↑(s.getD k (0:UInt8)).toNat:Int))),(0:Int)≤(↑k:Int)∧(↑k:Int)<(↑s.length:Int),BlkEqv (Blk.row 5 (1:Nat) s.length fun (i j:Nat)=>if i=(0:Nat)+k∧(0:Nat)≤j∧j<(1:Nat) then nthD (V1.c (Cell.int .u8 (IntKind.u8.wrap ((↑(s.getD k (0:UInt8)).toNat:Int)+(32:Int))))).cells (j-(0:Nat)) else bytesF (foldN s k) i j) (Blk.row 5 (1:Nat) s.length (bytesF (foldN s (k+(1:Nat))))),(0:Nat)+k<s.length,inR IntKind.i64 ((↑k:Int)+(1:Int))] (by kernel_rfl) (by kernel_rfl) (by kernel_rfl) ⟨(by simp;omega),(by omega),(by omega),(by assumption),(by omega),(by omega),(by intro _;assumption),(by assumption),(by omega),(by omega),(by assumption),(by omega),(by assumption),(by omega),inR64 (by omega) (by omega)⟩ ?_
   exact za [] (again _ (k+1) aS oM)
  | false =>
   rw [hg] at hb
   have e3:foldN s k=foldN s (k+1):=by
    rw [foldN_succ s k hlt,← foldN_at s k hlt,foldB,foldN_at s k hlt,if_neg (by rw [hg];decide),← foldN_at s k hlt]
    rw [List.getD_eq_getElem?_getD,List.getElem?_eq_getElem (by rw [foldN_len];exact hlt)]
    simp
   rw [e3] at e1 ⊢
   clear hg
   refine zg [(5,{fm:=[(3,.c (.int .u8 ((s.getD k 0).toNat:Int))),(9,.c (.int .u8 ((s.getD k 0).toNat:Int)))]})] [true,false] [decide ((k:Int)<(s.length:Int))=true,(0:Int)≤(k:Int)∧(k:Int)<(s.length:Int),0+k<s.length,EqvD (.c (bytesF (foldN s (k+(1:Nat))) ((0:Nat)+k) (0:Nat))) (.c (.int .u8 (↑(s.getD k (0:UInt8)).toNat:Int))),decide ((↑(s.getD k (0:UInt8)).toNat:Int)≥(65:Int))=true→(0:Int)≤(k:Int)∧(k:Int)<(s.length:Int),decide ((↑(s.getD k (0:UInt8)).toNat:Int)≥(65:Int))=true→(0:Nat)+k<s.length,decide ((↑(s.getD k (0:UInt8)).toNat:Int)≥(65:Int))=true→EqvD (.c (bytesF (foldN s (k+(1:Nat))) ((0:Nat)+k) (0:Nat))) (.c (.int .u8 (↑(s.getD k (0:UInt8)).toNat:Int))),(bif decide ((↑(s.getD k (0:UInt8)).toNat:Int)≥(65:Int)) then decide ((↑(s.getD k (0:UInt8)).toNat:Int)≤(90:Int)) else false)=false,inR .i64 ((k:Int)+1)] ⟨sO,oM,oM,aS,oM,oM,(by intro _;assumption),aS,i6⟩ ?_
   exact za [] (again _ (k+1) aS oM)
 ·obtain rfl:k=s.length:=by omega
  have ee:byteL (bytesF (foldN s s.length)) 0 s.length=foldT s:=by rw [byteL_F _ (by rw [foldN_len]),foldN_end]
  have ea:areBytes (bytesF (foldN s s.length)) 0 s.length:=areBytes_F _ _ _
  clear again
  refine zg [] [false] [decide ((s.length:Int)<(s.length:Int))=false,0+s.length≤s.length,areBytes (bytesF (foldN s s.length)) 0 s.length] ⟨(by simp;done),oM,(show areBytes (bytesF (foldN s s.length)) (0:Nat) s.length from aS)⟩ ?_
  exact zS [.c (.str (byteL (bytesF (foldN s s.length)) (0:Nat) s.length))] (by simp only [Int.ofNat_eq_natCast,Int.toNat_natCast,List.take_length,List.drop_zero, *])
theorem lines_pos (s:List UInt8):1≤(linesH s).length:=List.length_pos_iff.2 (splitK_nil _ _ _)
theorem split13_big (s:List UInt8) (hl:s.length<1000000000) (h:bigH s=true):Pur Tryz.prog G 54 [.c (.str s)] [.c (encL []),.c (.str []),.c (.int .i64 4)]:=by
 refine zp Tryz.func54 ?_
 have c1:Pur Tryz.prog G 59 [.c (.str s),.c (.str [13,10,13,10])] [.c (.str (hdC s).1),.c (.str (hdC s).2.1),.c (.bool (hdC s).2.2)]:=cut6_ok s [13,10,13,10] oM dC dC
 have hc:(hdC s).1.length≤s.length:=(cut_len s [13,10,13,10]).1
 have hnil:EqvD (.c .nilsl) (.c (encL [])):=nil_eqv _ _
 unfold bigH at h
 generalize hdC s=C at c1 h hc
 have hr:inR IntKind.i64 ((C.1.length:Int)+4):=i6
 cases hi:C.2.2 with
 | true =>
  rw [hi] at c1 h
  have ht:(bif bif true then decide ((C.1.length:Int)+4>2048) else false then true else bif !true then decide ((s.length:Int)>2048) else false)=true:=by
   have h:decide ((C.1.length:Int)+4>2048)=true:=h
   rw [h];rfl
  refine zg [(3,{fm:=[(0,.c (encL []))]}),(1,{cs:=[(1,pc c1)]})] [true] [true=true→inR .i64 ((C.1.length:Int)+(4:Int)),(bif bif true then decide ((C.1.length:Int)+(4:Int)>(2048:Int)) else false then true else bif !true then decide ((s.length:Int)>(2048:Int)) else false)=true,EqvI (.c .nilsl) (.c (encL [])),EqvD (.c .nilsl) (.c (encL []))] ⟨sO,aS,fun _ _=>trivial,(show EqvD (.c .nilsl) (.c (encL [])) from aS)⟩ ?_
  exact zr
 | false =>
  rw [hi] at c1 h
  have ht:(bif bif false then decide ((C.1.length:Int)+4>2048) else false then true else bif !false then decide ((s.length:Int)>2048) else false)=true:=h
  refine zg [(3,{fm:=[(0,.c (encL []))]}),(1,{cs:=[(1,pc c1)]})] [true] [false=true→inR .i64 ((C.1.length:Int)+(4:Int)),(bif bif false then decide ((C.1.length:Int)+(4:Int)>(2048:Int)) else false then true else bif !false then decide ((s.length:Int)>(2048:Int)) else false)=true,EqvI (.c .nilsl) (.c (encL [])),EqvD (.c .nilsl) (.c (encL []))] ⟨(by simp;done),aS,fun _ _=>trivial,(show EqvD (.c .nilsl) (.c (encL [])) from aS)⟩ ?_
  exact zr
theorem split13_form (s:List UInt8) (hl:s.length<1000000000) (h:bigH s=false) (hi:(hdC s).2.2=false):Pur Tryz.prog G 54 [.c (.str s)] [.c (encL []),.c (.str []),.c (.int .i64 3)]:=by
 refine zp Tryz.func54 ?_
 have c1:Pur Tryz.prog G 59 [.c (.str s),.c (.str [13,10,13,10])] [.c (.str (hdC s).1),.c (.str (hdC s).2.1),.c (.bool (hdC s).2.2)]:=cut6_ok s [13,10,13,10] oM dC dC
 have hc:(hdC s).1.length≤s.length:=(cut_len s [13,10,13,10]).1
 have hnil:EqvD (.c .nilsl) (.c (encL [])):=nil_eqv _ _
 unfold bigH at h
 generalize hdC s=C at c1 h hc hi
 have hr:inR IntKind.i64 ((C.1.length:Int)+4):=i6
 rw [hi] at c1 h
 have ht:(bif bif false then decide ((C.1.length:Int)+4>2048) else false then true else bif !false then decide ((s.length:Int)>2048) else false)=false:=h
 refine zg [(5,{fm:=[(0,.c (encL []))]}),(1,{cs:=[(1,pc c1)]})] [false,true] [false=true→inR .i64 ((C.1.length:Int)+(4:Int)),(bif bif false then decide ((C.1.length:Int)+(4:Int)>(2048:Int)) else false then true else bif !false then decide ((s.length:Int)>(2048:Int)) else false)=false,(!false)=true,EqvI (.c .nilsl) (.c (encL [])),EqvD (.c .nilsl) (.c (encL []))] ⟨(by simp;done),aS,rfl,fun _ _=>trivial,(show EqvD (.c .nilsl) (.c (encL [])) from aS)⟩ ?_
 exact zr
theorem split13_many (s:List UInt8) (hl:s.length<1000000000) (h:bigH s=false) (hi:(hdC s).2.2=true) (hm:(linesH s).length>25):Pur Tryz.prog G 54 [.c (.str s)] [.c (encL []),.c (.str []),.c (.int .i64 4)]:=by
 refine zp Tryz.func54 ?_
 have c1:Pur Tryz.prog G 59 [.c (.str s),.c (.str [13,10,13,10])] [.c (.str (hdC s).1),.c (.str (hdC s).2.1),.c (.bool (hdC s).2.2)]:=cut6_ok s [13,10,13,10] oM dC dC
 have hc:(hdC s).1.length≤s.length:=(cut_len s [13,10,13,10]).1
 have c2:Pur Tryz.prog G 58 [.c (.str (hdC s).1),.c (.str [13,10])] [.c (encL (linesH s))]:=parts_ok (hdC s).1 [13,10] oM dC dC
 have hnil:EqvD (.c .nilsl) (.c (encL [])):=nil_eqv _ _
 unfold bigH at h
 generalize linesH s=L at c2 hm
 generalize hdC s=C at c1 c2 h hc hi
 have hr:inR IntKind.i64 ((C.1.length:Int)+4):=i6
 rw [hi] at c1 h
 have ht:(bif bif true then decide ((C.1.length:Int)+4>2048) else false then true else bif !true then decide ((s.length:Int)>2048) else false)=false:=by
  have h:decide ((C.1.length:Int)+4>2048)=false:=h
  rw [h];rfl
 have ht3:decide ((L.length:Int)>25)=true:=by simp;omega
 refine zg [(8,{fm:=[(0,.c (encL []))]}),(1,{cs:=[(1,pc c1)]}),(6,{cs:=[(1,pc c2)]})] [false,false,true] [true=true→inR .i64 ((C.1.length:Int)+(4:Int)),(bif bif true then decide ((C.1.length:Int)+(4:Int)>(2048:Int)) else false then true else bif !true then decide ((s.length:Int)>(2048:Int)) else false)=false,(!true)=false,decide ((L.length:Int)>25)=true,EqvI (.c .nilsl) (.c (encL [])),EqvD (.c .nilsl) (.c (encL []))] ⟨sO,aS,rfl,aS,fun _ _=>trivial,(show EqvD (.c .nilsl) (.c (encL [])) from aS)⟩ ?_
 exact zr
theorem splitH_no {s:List UInt8} (hl:s.length<1000000000) (h:splitH s≠0):Pur Tryz.prog G 54 [.c (.str s)] [.c (encL []),.c (.str []),.c (.int .i64 (splitH s))]:=by
 cases hbig:bigH s with
 | true =>
  rw [show splitH s=4 from by unfold splitH;rw [hbig];rfl]
  exact split13_big s hl hbig
 | false =>
  cases hi:(hdC s).2.2 with
  | false =>
   rw [show splitH s=3 from by unfold splitH;rw [hbig,hi];rfl]
   exact split13_form s hl hbig hi
  | true =>
   by_cases hm:(linesH s).length>25
   ·rw [show splitH s=4 from by unfold splitH;rw [hbig,hi,if_pos hm];rfl]
    exact split13_many s hl hbig hi hm
   ·exact (h (splitH_yes hbig hi hm)).elim
theorem split13_yes (s:List UInt8) (hl:s.length<1000000000) (h:splitH s=0):Pur Tryz.prog G 54 [.c (.str s)] [.c (encL (linesH s)),.c (.str (hdC s).2.1),.c (.int .i64 0)]:=by
 refine zp Tryz.func54 ?_
 have c1:Pur Tryz.prog G 59 [.c (.str s),.c (.str [13,10,13,10])] [.c (.str (hdC s).1),.c (.str (hdC s).2.1),.c (.bool (hdC s).2.2)]:=cut6_ok s [13,10,13,10] oM dC dC
 have hc:(hdC s).1.length≤s.length:=(cut_len s [13,10,13,10]).1
 have c2:Pur Tryz.prog G 58 [.c (.str (hdC s).1),.c (.str [13,10])] [.c (encL (linesH s))]:=parts_ok (hdC s).1 [13,10] oM dC dC
 obtain ⟨hb,hi,hm⟩:bigH s=false∧(hdC s).2.2=true∧¬ (linesH s).length>25:=by
  unfold splitH at h
  split at h
  ·cases h
  ·split at h
   ·cases h
   ·split at h
    ·cases h
    ·rename_i h1 h2 h3
     exact ⟨by simpa using h1,by simpa using h2,h3⟩
 clear h
 unfold bigH at hb
 generalize linesH s=L at c2 hm ⊢
 generalize hdC s=C at c1 c2 hb hc hi ⊢
 have hr:inR IntKind.i64 ((C.1.length:Int)+4):=i6
 rw [hi] at c1 hb
 have ht:(bif bif true then decide ((C.1.length:Int)+4>2048) else false then true else bif !true then decide ((s.length:Int)>2048) else false)=false:=by
  have h:decide ((C.1.length:Int)+4>2048)=false:=hb
  rw [h];rfl
 have ht3:decide ((L.length:Int)>25)=false:=by simp;omega
 refine zg [(1,{cs:=[(1,pc c1)]}),(6,{cs:=[(1,pc c2)]})] [false,false,false] [true=true→inR .i64 ((C.1.length:Int)+(4:Int)),(bif bif true then decide ((C.1.length:Int)+(4:Int)>(2048:Int)) else false then true else bif !true then decide ((s.length:Int)>(2048:Int)) else false)=false,(!true)=false,decide ((L.length:Int)>25)=false] ⟨sO,aS,rfl,(show decide ((↑L.length:Int)>(25:Int))=false from aS)⟩ ?_
 exact zr
theorem fields13_ok (l:List (List UInt8)) (hl:∀ k,(l.getD k []).length<1000000000) (hn:l.length<1000000):Pur Tryz.prog G 56 [.c (encL l)] [.c (encH (if fieldsO l [] then fieldsA l [] else [])),.c (.int .i64 (if fieldsO l [] then 0 else 3))]:=by
 refine zp Tryz.func56 ?_
 have hnil:EqvD (.c .nilsl) (.c (encH [])):=nil_eqv _ _
 refine z0 [] [] ?_
 refine Wp.loopK kR (fun (x:Nat×Nat×List FT)=>⟨[(0,.v (.c (encL l))),(4,.v (.c (.row 2 64 0 x.2.1))),(5,.v (.c (.int .i64 (x.1:Int))))],[(64,.row 103 2 x.2.1 (rowF encF .nil x.2.2))],80⟩) (fun x=>x.1≤l.length∧x.2.1=x.2.2.length∧x.2.1≤x.1∧fieldsA l []=fieldsA (l.drop x.1) x.2.2∧fieldsO l []=fieldsO (l.drop x.1) x.2.2) (fun x=>l.length-x.1) (0,0,[]) (Ent.trans (Ent.empT (t:=4) (sz:=2) (e:=103) (f:=(rowF encF .nil [])) dC kR rfl) (Ent.of [] kR kR kR trivial)) ⟨Nat.zero_le _,rfl,Nat.le_refl _,rfl,rfl⟩ ?_
 rintro ⟨k,n,acc⟩ L ⟨hk,hnH,hnk,hA,hO⟩ again
 simp only at hk hnH hnk hA hO
 rcases Nat.lt_or_ge k l.length with hlt | hge
 ·rw [fA_step l acc k hlt] at hA
  rw [fO_step l acc k hlt] at hO
  have hp:=hl k
  have hcl:=cut_len (l.getD k []) [58,32]
  have c1:=cut6_ok (G:=G) (l.getD k []) [58,32] oM dC dC
  have c2:=fold6_ok (G:=G) (Lib.cut (l.getD k []) [58,32]).1 oM
  have c3:=token6_ok (G:=G) (Lib.cut (l.getD k []) [58,32]).1 oM
  have c4:=seen6_ok (G:=G) (Lib.cut (l.getD k []) [58,32]).2.1 oM
  have c5:=has10_n (G:=G) acc n (lineF (l.getD k [])).name hnH oM
  have ht:=okA_b (Lib.cut (l.getD k []) [58,32]).2.2 (tokenT (Lib.cut (l.getD k []) [58,32]).1) ((Lib.cut (l.getD k []) [58,32]).2.1.all seenB) (fGet acc (lineF (l.getD k [])).name).isSome
  rw [show (((Lib.cut (l.getD k []) [58,32]).2.2&&(tokenT (Lib.cut (l.getD k []) [58,32]).1&&(Lib.cut (l.getD k []) [58,32]).2.1.all seenB)) && !(fGet acc (lineF (l.getD k [])).name).isSome)=okA acc (l.getD k []) from rfl] at ht
  cases hok:okA acc (l.getD k []) with
  | false =>
   rw [hok,if_neg dC] at hO
   rw [hO,if_neg dC,if_neg dC]
   rw [hok] at ht
   cases hg:(bif bif !(Lib.cut (l.getD k []) [58,32]).2.2 then true else !tokenT (Lib.cut (l.getD k []) [58,32]).1 then true else !(Lib.cut (l.getD k []) [58,32]).2.1.all seenB) with
   | true =>
    have ht:(bif bif bif !(Lib.cut (l.getD k []) [58,32]).2.2 then true else !tokenT (Lib.cut (l.getD k []) [58,32]).1 then true else !(Lib.cut (l.getD k []) [58,32]).2.1.all seenB then true else (fGet acc (lineF (l.getD k [])).name).isSome)=true:=ht
    clear hA hO hok again
    refine zg [(7,{fm:=[(0,.c (encH []))]}),(5,{cs:=[(4,pc c1)]}),(6,{grd:=[(13,false),(14,false),(15,false),(16,false),(17,true)],cs:=[(4,pc c3),(9,pc c4),(15,pc c2),(16,lc [64] [.row 103 (2:Nat) n fun i j=>nthD [.str (acc.getD i .nil).name,.str (acc.getD i .nil).value] j] [.c (.row 2 (0:Nat) (0:Nat) n),.c (.str (foldT (Lib.cut (l.getD k []) [(58:UInt8),32]).1))] c5 kR kR kR (show (0:Nat)+n≤n from oM))]})] [true,true] [decide ((k:Int)<(l.length:Int))=true,(0:Int)≤(k:Int)∧(k:Int)<(l.length:Int),(bif bif !(Lib.cut (l.getD k []) [(58:UInt8),32]).2.snd then true else !tokenT (Lib.cut (l.getD k []) [(58:UInt8),32]).1 then true else !(Lib.cut (l.getD k []) [(58:UInt8),32]).2.fst.all seenB) = !false,(bif bif !(Lib.cut (l.getD k []) [(58:UInt8),32]).2.snd then true else !tokenT (Lib.cut (l.getD k []) [(58:UInt8),32]).1 then true else !(Lib.cut (l.getD k []) [(58:UInt8),32]).2.fst.all seenB) = !false,(bif bif !(Lib.cut (l.getD k []) [(58:UInt8),32]).2.snd then true else !tokenT (Lib.cut (l.getD k []) [(58:UInt8),32]).1 then true else !(Lib.cut (l.getD k []) [(58:UInt8),32]).2.fst.all seenB) = !false,(bif bif !(Lib.cut (l.getD k []) [(58:UInt8),32]).2.snd then true else !tokenT (Lib.cut (l.getD k []) [(58:UInt8),32]).1 then true else !(Lib.cut (l.getD k []) [(58:UInt8),32]).2.fst.all seenB) = !false,(bif bif !(Lib.cut (l.getD k []) [(58:UInt8),32]).2.snd then true else !tokenT (Lib.cut (l.getD k []) [(58:UInt8),32]).1 then true else !(Lib.cut (l.getD k []) [(58:UInt8),32]).2.fst.all seenB)=true,true=true,EqvI (.c .nilsl) (.c (encH [])),EqvD (.c .nilsl) (.c (encH []))] ⟨sO,oM,aS,aS,aS,aS,aS,rfl,fun _ _=>trivial,(show EqvD (.c .nilsl) (.c (encH [])) from aS)⟩ ?_
    exact zr
   | false =>
    have ht:(bif bif bif !(Lib.cut (l.getD k []) [58,32]).2.2 then true else !tokenT (Lib.cut (l.getD k []) [58,32]).1 then true else !(Lib.cut (l.getD k []) [58,32]).2.1.all seenB then true else (fGet acc (lineF (l.getD k [])).name).isSome)=true:=ht
    clear hA hO hok again
    refine zg [(7,{fm:=[(0,.c (encH []))]}),(5,{cs:=[(4,pc c1)]}),(6,{grd:=[(13,true),(14,true),(15,true),(16,true)],cs:=[(4,pc c3),(9,pc c4),(15,pc c2),(16,lc [64] [.row 103 (2:Nat) n fun i j=>nthD [.str (acc.getD i .nil).name,.str (acc.getD i .nil).value] j] [.c (.row 2 (0:Nat) (0:Nat) n),.c (.str (foldT (Lib.cut (l.getD k []) [(58:UInt8),32]).1))] c5 kR kR kR (show (0:Nat)+n≤n from oM))]})] [true,true] [decide ((k:Int)<(l.length:Int))=true,(0:Int)≤(k:Int)∧(k:Int)<(l.length:Int),(bif bif !(Lib.cut (l.getD k []) [(58:UInt8),32]).2.snd then true else !tokenT (Lib.cut (l.getD k []) [(58:UInt8),32]).1 then true else !(Lib.cut (l.getD k []) [(58:UInt8),32]).2.fst.all seenB)=false,(bif bif !(Lib.cut (l.getD k []) [(58:UInt8),32]).2.snd then true else !tokenT (Lib.cut (l.getD k []) [(58:UInt8),32]).1 then true else !(Lib.cut (l.getD k []) [(58:UInt8),32]).2.fst.all seenB)=false,(bif bif !(Lib.cut (l.getD k []) [(58:UInt8),32]).2.snd then true else !tokenT (Lib.cut (l.getD k []) [(58:UInt8),32]).1 then true else !(Lib.cut (l.getD k []) [(58:UInt8),32]).2.fst.all seenB)=false,(bif bif !(Lib.cut (l.getD k []) [(58:UInt8),32]).2.snd then true else !tokenT (Lib.cut (l.getD k []) [(58:UInt8),32]).1 then true else !(Lib.cut (l.getD k []) [(58:UInt8),32]).2.fst.all seenB)=false,(bif bif bif !(Lib.cut (l.getD k []) [(58:UInt8),32]).2.snd then true else !tokenT (Lib.cut (l.getD k []) [(58:UInt8),32]).1 then true else !(Lib.cut (l.getD k []) [(58:UInt8),32]).2.fst.all seenB then true else (fGet acc (lineF (l.getD k [])).name).isSome)=true,EqvI (.c .nilsl) (.c (encH [])),EqvD (.c .nilsl) (.c (encH []))] ⟨sO,oM,aS,aS,aS,aS,aS,fun _ _=>trivial,(show EqvD (.c .nilsl) (.c (encH [])) from aS)⟩ ?_
    exact zr
  | true =>
   rw [hok,if_pos rfl] at hA hO
   rw [hok] at ht
   have ht:(bif bif bif !(Lib.cut (l.getD k []) [58,32]).2.2 then true else !tokenT (Lib.cut (l.getD k []) [58,32]).1 then true else !(Lib.cut (l.getD k []) [58,32]).2.1.all seenB then true else (fGet acc (lineF (l.getD k [])).name).isSome)=false:=ht
   have hg:(bif bif !(Lib.cut (l.getD k []) [58,32]).2.2 then true else !tokenT (Lib.cut (l.getD k []) [58,32]).1 then true else !(Lib.cut (l.getD k []) [58,32]).2.1.all seenB)=false:=by
    revert ht
    generalize (bif bif !(Lib.cut (l.getD k []) [58,32]).2.2 then true else !tokenT (Lib.cut (l.getD k []) [58,32]).1 then true else !(Lib.cut (l.getD k []) [58,32]).2.1.all seenB)=b
    intro h
    cases b with
    | true=>exact h
    | false=>rfl
   have e3:BlkEqv (.row 103 2 (n+1) (catF n (rowF encF .nil acc) (fun i j=>nthD (encF (lineF (l.getD k []))) ((0+i)*2+j)))) (.row 103 2 (n+1) (rowF encF .nil (acc++[lineF (l.getD k [])]))):=enc_app acc _ hnH
   have q2:n+1=(acc++[lineF (l.getD k [])]).length:=by simp [hnH]
   clear hok
   refine zg [(8,{cs:=[(2,pc c2)],bs:=[(6,.row 103 2 (n+1) (rowF encF .nil (acc++[lineF (l.getD k [])])))]}),(5,{cs:=[(4,pc c1)]}),(6,{grd:=[(13,true),(14,true),(15,true),(16,true)],cs:=[(4,pc c3),(9,pc c4),(15,pc c2),(16,lc [64] [.row 103 (2:Nat) n fun i j=>nthD [.str (acc.getD i .nil).name,.str (acc.getD i .nil).value] j] [.c (.row 2 (0:Nat) (0:Nat) n),.c (.str (foldT (Lib.cut (l.getD k []) [(58:UInt8),32]).1))] c5 kR kR kR (show (0:Nat)+n≤n from oM))]})] [true,false] [decide ((k:Int)<(l.length:Int))=true,(0:Int)≤(k:Int)∧(k:Int)<(l.length:Int),(bif bif !(Lib.cut (l.getD k []) [(58:UInt8),32]).2.snd then true else !tokenT (Lib.cut (l.getD k []) [(58:UInt8),32]).1 then true else !(Lib.cut (l.getD k []) [(58:UInt8),32]).2.fst.all seenB)=false,(bif bif !(Lib.cut (l.getD k []) [(58:UInt8),32]).2.snd then true else !tokenT (Lib.cut (l.getD k []) [(58:UInt8),32]).1 then true else !(Lib.cut (l.getD k []) [(58:UInt8),32]).2.fst.all seenB)=false,(bif bif !(Lib.cut (l.getD k []) [(58:UInt8),32]).2.snd then true else !tokenT (Lib.cut (l.getD k []) [(58:UInt8),32]).1 then true else !(Lib.cut (l.getD k []) [(58:UInt8),32]).2.fst.all seenB)=false,(bif bif !(Lib.cut (l.getD k []) [(58:UInt8),32]).2.snd then true else !tokenT (Lib.cut (l.getD k []) [(58:UInt8),32]).1 then true else !(Lib.cut (l.getD k []) [(58:UInt8),32]).2.fst.all seenB)=false,(bif bif bif !(Lib.cut (l.getD k []) [(58:UInt8),32]).2.snd then true else !tokenT (Lib.cut (l.getD k []) [(58:UInt8),32]).1 then true else !(Lib.cut (l.getD k []) [(58:UInt8),32]).2.fst.all seenB then true else (fGet acc (lineF (l.getD k [])).name).isSome)=false,(n+1)*32≤140737488355328,BlkEqv (.row 103 (2:Nat) (n+(1:Nat)) (catF n (fun i j=>nthD [.str (acc.getD i .nil).name,.str (acc.getD i .nil).value] j) fun i j=>nthD [.str (foldT (Lib.cut (l.getD k []) [(58:UInt8),32]).1),.str (Lib.cut (l.getD k []) [(58:UInt8),32]).2.fst] (((0:Nat)+i)*(2:Nat)+j))) (.row 103 (2:Nat) (n+(1:Nat)) (rowF encF FT.nil (acc++[lineF (l.getD k [])]))),n≤n,0+1≤1,inR .i64 ((k:Int)+1)] ⟨sO,oM,aS,aS,aS,aS,aS,oM,aS,oM,oM,i6⟩ ?_
   exact za [(64,720)] (again _ (k+1,n+1,acc++[lineF (l.getD k [])]) ⟨aS,⟨aS,⟨sO,⟨aS,aS⟩⟩⟩⟩ oM)
 ·rw [List.drop_of_length_le hge] at hA hO
  rw [hA,hO,fieldsA,fieldsO,if_pos rfl,if_pos rfl]
  subst hnH
  clear hA hO again
  refine zg [] [false] [decide ((k:Int)<(l.length:Int))=false] (oN sO) ?_
  refine Wp.ent' kR (Ent.pubT (t:=2) (e:=103) (sz:=(2:Nat)) (id:=64) (off:=(0:Nat)) (m:=acc.length) (n:=acc.length) (f:=fun (i j:Nat)=>nthD [Cell.str (acc.getD i FT.nil).name,Cell.str (acc.getD i FT.nil).value] j) (m':=acc.length) (f':=fun (i j:Nat)=>nthD (encF (acc.getD i FT.nil)) j) kR kR oM rfl (fun i _ j _=>by rw [Nat.zero_add];rfl) rfl) ?_
  exact zr
def httpV:List UInt8:=[72,84,84,80,47,49,46,49]
def numA (s:List UInt8):List UInt8:=(s.take 12).drop 9
def tell13 (s:List UInt8):Bool:=decide (13≤s.length)&&((s.take 9==verS)&&((s.getD 12 0==32)&&s.all seenB))
theorem dig_32 {t:List UInt8} (h:t.all digitB=true):(32:UInt8)∉t:=by
 intro hc
 rw [List.all_eq_true] at h
 have:=h _ hc
 revert this
 decide
theorem num_len3 {t:List UInt8} (h:numK 3 t=true) (hn:100≤nv t):t.length=3:=by
 unfold numK canonB at h
 simp only [Bool.and_eq_true,decide_eq_true_eq] at h
 obtain ⟨h1,h2,h3⟩:=h
 rcases Nat.lt_or_ge t.length 3 with hlt | hge
 ·have:=nv_lt 2 t oM h2
  omega
 ·omega
theorem dig_seen {t:List UInt8} (h:t.all digitB=true):t.all seenB=true:=by
 rw [List.all_eq_true] at h ⊢
 intro c hc
 have:∀ c:UInt8,(!digitB c||seenB c)=true:=byte_all _ kR
 have:=this c
 rw [h c hc] at this
 simpa using this
theorem tell_parts {s:List UInt8} (h:tellB s=true):s=verS++((tellC s).1++([32]++(tellC s).2.1))∧(tellC s).1.length=3∧numK 3 (tellC s).1=true∧(tellC s).2.1.all seenB=true∧100≤nv (tellC s).1∧nv (tellC s).1≤599:=by
 unfold tellB at h
 simp only [Bool.and_eq_true] at h
 obtain ⟨h1,h2,h3,h4,h5⟩:=h
 have hn:tellN s=((nv (tellC s).1:Nat):Int):=by unfold tellN;rw [h3,if_pos rfl]
 rw [hn] at h4
 unfold statedT at h4
 rw [Bool.cond_false_right,Bool.and_eq_true,decide_eq_true_eq,decide_eq_true_eq] at h4
 have hl:=num_len3 h3 oM
 obtain ⟨t,ht⟩:=List.isPrefixOf_iff_prefix.1 h1
 have e1:Lib.trimPrefix s verS=t:=by
  unfold Lib.trimPrefix
  rw [if_pos h1,← ht,List.drop_left]
 have e2:Lib.trimPrefix s verS=(tellC s).1++[32]++(tellC s).2.1:=cut_true (p:=[32]) h2
 have e3:t=(tellC s).1++([32]++(tellC s).2.1):=by
  rw [e1] at e2
  rw [← List.append_assoc]
  exact e2
 exact ⟨by rw [← e3,ht],hl,h3,h5,by omega,by omega⟩
theorem tell_to {s:List UInt8} (h:tellB s=true):tell13 s=true∧numA s=(tellC s).1:=by
 obtain ⟨e,hl,h3,h5,h6,h7⟩:=tell_parts h
 have hd:(tellC s).1.all digitB=true:=by unfold numK canonB at h3;simp only [Bool.and_eq_true] at h3;exact h3.2.1
 generalize (tellC s).1=a at *
 generalize (tellC s).2.1=w at *
 subst e
 obtain ⟨x,y,z,rfl⟩:∃ x y z,a=[x,y,z]:=by
  match a,hl with
  | [x,y,z],_=>exact ⟨x,y,z,rfl⟩
 refine ⟨?_,rfl⟩
 unfold tell13
 have hs:(verS++([x,y,z]++([32]++w))).all seenB=true:=by
  rw [List.all_append,List.all_append,List.all_append,dig_seen hd,h5]
  rfl
 rw [hs]
 have:13≤(verS++([x,y,z]++([32]++w))).length:=by simp [verS]
 rw [decide_eq_true this]
 rfl
theorem tell_of {s:List UInt8} (h:tell13 s=true) (hn:numK 9 (numA s)=true) (h1:100≤nv (numA s)) (h2:nv (numA s)≤599):tellB s=true∧(tellC s).1=numA s:=by
 unfold tell13 at h
 simp only [Bool.and_eq_true,decide_eq_true_eq] at h
 obtain ⟨a1,a2,a3,a4⟩:=h
 have hd:(numA s).all digitB=true:=by unfold numK canonB at hn;simp only [Bool.and_eq_true] at hn;exact hn.2.1
 have hl:(numA s).length=3:=by unfold numA;rw [List.length_drop,List.length_take];omega
 have e:s=verS++(numA s++([32]++s.drop 13)):=by
  have q1:s=s.take 9++s.drop 9:=(List.take_append_drop 9 s).symm
  have q2:s.drop 9=numA s++s.drop 12:=by
   unfold numA
   have:=(List.take_append_drop 3 (s.drop 9)).symm
   rw [List.drop_drop] at this
   rw [this,List.take_drop]
  have q3:s.drop 12=[32]++s.drop 13:=by
   rw [dropS s 12 oM,eq_of_beq a3];rfl
  rw [eq_of_beq a2,q2,q3] at q1
  exact q1
 have hp:Lib.hasPrefix s verS=true:=List.isPrefixOf_iff_prefix.2 ⟨_,e.symm⟩
 have ht:Lib.trimPrefix s verS=numA s++[32]++s.drop 13:=by
  unfold Lib.trimPrefix
  rw [if_pos hp]
  conv=>lhs;rw [e]
  rw [List.drop_left,List.append_assoc]
 have hc:tellC s=(numA s,s.drop 13,true):=by
  unfold tellC
  rw [ht]
  exact cut_at (numA s) (s.drop 13) [] 32 (dig_32 hd)
 have h3:numK 3 (numA s)=true:=by
  unfold numK at hn ⊢
  rw [Bool.and_eq_true] at hn ⊢
  exact ⟨by simp [hl],hn.2⟩
 have hN:tellN s=((nv (numA s):Nat):Int):=by unfold tellN;rw [hc,if_pos h3]
 have hw:(s.drop 13).all seenB=true:=by
  rw [List.all_eq_true] at a4 ⊢
  exact fun c hc=>a4 c (List.mem_of_mem_drop hc)
 refine ⟨?_,by rw [hc]⟩
 unfold tellB
 rw [hp,hN,hc,h3,hw]
 unfold statedT
 rw [decide_eq_true (show ((nv (numA s):Nat):Int)≥100 by omega),decide_eq_true (show ((nv (numA s):Nat):Int)≤599 by omega)]
 rfl
theorem tell13b (a b c d:Bool):(bif bif bif !a then true else !b then true else !c then true else !d) = !(a&&(b&&(c&&d))):=by
 cases a<;>cases b<;>cases c<;>cases d<;>rfl
def tell13N (s:List UInt8):Int:=if tell13 s then cntT (numA s) else 0
def tell13B (s:List UInt8):Bool:=tell13 s&&statedT (cntT (numA s))
theorem tell13B_eq (s:List UInt8):tell13B s=tellB s∧(tellB s=true→tell13N s=tellN s):=by
 cases h:tellB s with
 | true =>
  obtain ⟨h1,h2⟩:=tell_to h
  obtain ⟨_,hl,h3,h5,h6,h7⟩:=tell_parts h
  have hc:cntT (numA s)=((nv (tellC s).1:Nat):Int):=by
   unfold cntT
   rw [h2,if_pos (by unfold numK at h3 ⊢;rw [Bool.and_eq_true] at h3 ⊢;exact ⟨by simp [hl],h3.2⟩)]
  refine ⟨?_,fun _ => ?_⟩
  ·unfold tell13B statedT
   rw [h1,hc,decide_eq_true (show ((nv (tellC s).1:Nat):Int)≥100 by omega),decide_eq_true (show ((nv (tellC s).1:Nat):Int)≤599 by omega)]
   rfl
  ·unfold tell13N tellN
   rw [h1,if_pos rfl,hc,h3,if_pos rfl]
 | false =>
  refine ⟨?_,fun h=>by cases h⟩
  cases h2:tell13B s with
  | false=>rfl
  | true =>
   unfold tell13B statedT at h2
   rw [Bool.and_eq_true,Bool.cond_false_right,Bool.and_eq_true,decide_eq_true_eq,decide_eq_true_eq] at h2
   obtain ⟨q1,q2,q3⟩:=h2
   have hn:numK 9 (numA s)=true:=by
    cases hk:numK 9 (numA s) with
    | true=>rfl
    | false=>unfold cntT at q2; rw [hk] at q2; simp at q2
   have hc:cntT (numA s)=((nv (numA s):Nat):Int):=by unfold cntT;rw [hn];rfl
   rw [hc] at q2 q3
   rw [(tell_of q1 hn oM oM).1] at h
   cases h
theorem tell13_ok (s:List UInt8) (hl:s.length<1000000000):Pur Tryz.prog G 64 [.c (.str s)] [.c (.int .i64 (tell13N s)),.c (.bool (tell13B s))]:=by
 refine zp Tryz.func64 ?_
 have c1:=seen6_ok (G:=G) s oM
 have c2:=count_ok (G:=G) (numA s) (by unfold numA;rw [List.length_drop,List.length_take];omega)
 unfold numA at c2
 have hi0:(((s.getD 12 0).toNat:Int) != 32) = !(s.getD 12 0==32):=by
  have:=ibeq (s.getD 12 0) 32
  unfold bne
  exact congrArg (!·) this
 have hd:decide ((s.length:Int)<13) = !decide (13≤s.length):=by
  by_cases h:13≤s.length<;>simp [h]<;>omega
 have hb:=tell13b (decide (13≤s.length)) (s.take 9==verS) (s.getD 12 0==32) (s.all seenB)
 rw [← hd,← hi0] at hb
 have hb:(bif bif bif decide ((s.length:Int)<13) then true else !(s.take 9==verS) then true else (((s.getD 12 0).toNat:Int) != 32) then true else !(s.all seenB)) = !tell13 s:=hb
 cases ht:tell13 s with
 | true =>
  rw [ht] at hb
  have hb:(bif bif bif decide ((s.length:Int)<13) then true else !(s.take 9==verS) then true else (((s.getD 12 0).toNat:Int) != 32) then true else !(s.all seenB))=false:=hb
  have h13:13≤s.length:=by
   unfold tell13 at ht
   rw [Bool.and_eq_true,decide_eq_true_eq] at ht
   exact ht.1
  rw [show tell13N s=cntT (numA s) from by unfold tell13N;rw [ht];rfl,show tell13B s=(bif decide (cntT (numA s)≥100) then decide (cntT (numA s)≤599) else false) from by unfold tell13B;rw [ht];rfl]
  unfold numA
  clear ht hi0 hd
  refine zg [(2,{cs:=[(20,pc c1)]}),(4,{cs:=[(5,pc c2)]})] [false] [inR .i64 (9+4),decide ((s.length:Int)<(9:Int)+(4:Int))=false→(0:Int)≤Int.ofNat (0)∧Int.ofNat (0)≤Int.ofNat (9)∧Int.ofNat (9)≤(s.length:Int),(bif decide ((s.length:Int)<(9:Int)+(4:Int)) then true else !List.drop (0:Nat) (List.take (9:Nat) s)==[(72:UInt8),84,84,80,47,49,46,49,32])=false→inR .i64 ((9:Int)+(3:Int)),(bif decide ((s.length:Int)<(9:Int)+(4:Int)) then true else !List.drop (0:Nat) (List.take (9:Nat) s)==[(72:UInt8),84,84,80,47,49,46,49,32])=false→(0:Int)≤(9:Int)+(3:Int)∧(9:Int)+(3:Int)<(s.length:Int),(bif bif bif decide ((s.length:Int)<(9:Int)+(4:Int)) then true else !List.drop (0:Nat) (List.take (9:Nat) s)==[(72:UInt8),84,84,80,47,49,46,49,32] then true else (↑(s.getD (12:Nat) (0:UInt8)).toNat:Int) != (32:Int) then true else !s.all seenB)=false,inR .i64 (9+3),(0:Int)≤Int.ofNat (9)∧Int.ofNat (9)≤Int.ofNat (9+3)∧Int.ofNat (9+3)≤(s.length:Int)] ⟨i6,sO,(fun _=>i6),oM,aS,i6,⟨dC,⟨dC,sO⟩⟩⟩ ?_
  exact zr
 | false =>
  rw [ht] at hb
  have hb:(bif bif bif decide ((s.length:Int)<13) then true else !(s.take 9==verS) then true else (((s.getD 12 0).toNat:Int) != 32) then true else !(s.all seenB))=true:=hb
  rw [show tell13N s=0 from by unfold tell13N;rw [ht];rfl,show tell13B s=false from by unfold tell13B;rw [ht];rfl]
  clear ht hi0 hd
  refine zg [(2,{cs:=[(20,pc c1)]})] [true] [inR .i64 (9+4),decide ((s.length:Int)<(9:Int)+(4:Int))=false→(0:Int)≤Int.ofNat (0)∧Int.ofNat (0)≤Int.ofNat (9)∧Int.ofNat (9)≤(s.length:Int),(bif decide ((s.length:Int)<(9:Int)+(4:Int)) then true else !List.drop (0:Nat) (List.take (9:Nat) s)==[(72:UInt8),84,84,80,47,49,46,49,32])=false→inR .i64 ((9:Int)+(3:Int)),(bif decide ((s.length:Int)<(9:Int)+(4:Int)) then true else !List.drop (0:Nat) (List.take (9:Nat) s)==[(72:UInt8),84,84,80,47,49,46,49,32])=false→(0:Int)≤(9:Int)+(3:Int)∧(9:Int)+(3:Int)<(s.length:Int),(bif bif bif decide ((s.length:Int)<(9:Int)+(4:Int)) then true else !List.drop (0:Nat) (List.take (9:Nat) s)==[(72:UInt8),84,84,80,47,49,46,49,32] then true else (↑(s.getD (12:Nat) (0:UInt8)).toNat:Int) != (32:Int) then true else !s.all seenB)=true] ⟨i6,sO,(fun _=>i6),sO,(show (bif bif bif decide ((↑s.length:Int)<(9:Int)+(4:Int)) then true else !List.drop (0:Nat) (List.take (9:Nat) s)==[(72:UInt8),84,84,80,47,49,46,49,32] then true else (↑(s.getD (12:Nat) (0:UInt8)).toNat:Int) != (32:Int) then true else !s.all seenB)=true from aS)⟩ ?_
  exact zr
theorem filter_none {l:List FT} (h:fGet l clN=none):l.filter notCl=l:=by
 rw [List.filter_eq_self]
 intro f hf
 unfold notCl
 cases hc:f.name==clN with
 | false=>rfl
 | true =>
  have:(fGet l clN).isSome=true:=by rw [← fGet_con,List.contains_iff_mem];exact List.mem_map.2 ⟨f,hf,eq_of_beq hc⟩
  rw [h] at this
  cases this
def pT (l:List FT) (b:List UInt8):List Cell:=[.str [],encH l,.str b]
theorem body13_non (l:List FT) (r:List UInt8) (hl:l.length<1000000) (h:fGet l clN=none) (hr:r=[]):Pur Tryz.prog G 57 [.agg (pT l []),.c (.str r)] [.agg (pT l []),.c (.int .i64 0)]:=by
 refine zp Tryz.func57 ?_
 have c1:Pur Tryz.prog G 26 [.c (encH l),.c (.str clN)] [.c (.str []),.c (.bool false)]:=by
  have:=get10_ok (G:=G) l clN oM
  rw [h] at this
  exact this
 have ht:(!(r==[]))=false:=by rw [hr];rfl
 clear h
 refine zg [(1,{cs:=[(2,pc c1)]})] [true,false] [(!false)=true,(!r==[])=false] ⟨rfl,(show (!r==[])=false from aS)⟩ ?_
 exact zr
theorem body13_nof (l:List FT) (r:List UInt8) (hl:l.length<1000000) (h:fGet l clN=none) (hr:r≠[]):Pur Tryz.prog G 57 [.agg (pT l []),.c (.str r)] [.agg (pT l []),.c (.int .i64 3)]:=by
 refine zp Tryz.func57 ?_
 have c1:Pur Tryz.prog G 26 [.c (encH l),.c (.str clN)] [.c (.str []),.c (.bool false)]:=by
  have:=get10_ok (G:=G) l clN oM
  rw [h] at this
  exact this
 have ht:(!(r==[]))=true:=by cases r with
  | nil=>exact (hr rfl).elim
  | cons a b=>rfl
 clear h
 refine zg [(1,{cs:=[(2,pc c1)]})] [true,true] [(!false)=true,(!r==[])=true] ⟨rfl,(show (!r==[])=true from aS)⟩ ?_
 exact zr
theorem body13_no (l:List FT) (r v:List UInt8) (hl:l.length<1000000) (hv:v.length<1000000000) (hr:r.length<1000000000) (h:fGet l clN=some v) (he:szE v true r≠0):Pur Tryz.prog G 57 [.agg (pT l []),.c (.str r)] [.agg (pT l []),.c (.int .i64 (szE v true r))]:=by
 refine zp Tryz.func57 ?_
 have c1:Pur Tryz.prog G 26 [.c (encH l),.c (.str clN)] [.c (.str v),.c (.bool true)]:=by
  have:=get10_ok (G:=G) l clN oM
  rw [h] at this
  exact this
 have c2:=count_ok (G:=G) v hv
 unfold szE cntT at *
 rw [if_pos rfl] at he ⊢
 cases hk:numK 9 v with
 | false =>
  rw [hk] at c2
  have c2:Pur Tryz.prog G 109 [.c (.str v)] [.c (.int .i64 (-1))]:=c2
  rw [if_pos rfl]
  have ht:decide ((-1:Int)<0)=true:=rfl
  clear h he
  refine zg [(1,{cs:=[(2,pc c1)]}),(6,{cs:=[(1,pc c2)]})] [false,true] [(!true)=false,decide ((-1:Int)<(0:Int))=true] ⟨rfl,rfl⟩ ?_
  exact zr
 | true =>
  rw [hk,if_pos rfl] at c2
  rw [hk,if_neg dC] at he
  rw [if_neg dC]
  generalize nv v=N at *
  have ht1:decide ((N:Int)<0)=false:=by simp
  by_cases h4:N>4096
  ·rw [if_pos h4]
   have ht:decide ((N:Int)>4096)=true:=by simp;omega
   clear h he
   refine zg [(1,{cs:=[(2,pc c1)]}),(6,{cs:=[(1,pc c2)]})] [false,false,true] [(!true)=false,decide ((N:Int)<0)=false,decide ((N:Int)>4096)=true] ⟨rfl,rfl,(show decide ((↑N:Int)>(4096:Int))=true from aS)⟩ ?_
   exact zr
  ·rw [if_neg h4] at he ⊢
   have ht:decide ((N:Int)>4096)=false:=by simp;omega
   by_cases h5:N=r.length
   ·rw [if_pos h5] at he
    exact (he rfl).elim
   ·rw [if_neg h5]
    have ht2:((N:Int) != (r.length:Int))=true:=by simp;omega
    clear h he
    refine zg [(1,{cs:=[(2,pc c1)]}),(6,{cs:=[(1,pc c2)]})] [false,false,false,true] [(!true)=false,decide ((N:Int)<0)=false,decide ((N:Int)>4096)=false,((N:Int) != (r.length:Int))=true] ⟨rfl,rfl,aS,(show ((↑N:Int) != (↑r.length:Int))=true from aS)⟩ ?_
    exact zr
theorem filt_step (l:List FT) (k:Nat) (hk:k<l.length):(l.take (k+1)).filter notCl=if (l.getD k .nil).name==clN then (l.take k).filter notCl else (l.take k).filter notCl++[l.getD k .nil]:=by
 rw [List.take_succ_eq_append_getElem hk,show l[k]=l.getD k .nil from by simp [List.getD,hk]]
 split
 ·rename_i h;exact filt_cl _ _ h
 ·rename_i h;exact filt_no _ _ (by simpa using h)
theorem body13_yes (l:List FT) (r v:List UInt8) (hl:l.length<1000000) (hv:v.length<1000000000) (hr:r.length<1000000000) (h:fGet l clN=some v) (he:szE v true r=0):Pur Tryz.prog G 57 [.agg (pT l []),.c (.str r)] [.agg (pT (l.filter notCl) r),.c (.int .i64 0)]:=by
 refine zp Tryz.func57 ?_
 have c1:Pur Tryz.prog G 26 [.c (encH l),.c (.str clN)] [.c (.str v),.c (.bool true)]:=by
  have:=get10_ok (G:=G) l clN oM
  rw [h] at this
  exact this
 have c2:=count_ok (G:=G) v hv
 unfold szE at he
 unfold cntT at c2
 rw [if_pos rfl] at he
 cases hk:numK 9 v with
 | false=>rw [hk] at he; simp at he
 | true =>
  rw [hk,if_pos rfl] at c2
  rw [hk,if_neg dC] at he
  generalize nv v=N at *
  have ht1:decide ((N:Int)<0)=false:=by simp
  by_cases h4:N>4096
  ·rw [if_pos h4] at he;cases he
  ·rw [if_neg h4] at he
   have ht:decide ((N:Int)>4096)=false:=by simp;omega
   by_cases h5:N=r.length
   ·have ht2:((N:Int) != (r.length:Int))=false:=by simp;omega
    clear h he
    refine zg [(1,{cs:=[(2,pc c1)]}),(6,{cs:=[(1,pc c2)]})] [false,false,false,false] [(!true)=false,decide ((N:Int)<0)=false,decide ((N:Int)>4096)=false,((N:Int) != (r.length:Int))=false] ⟨rfl,ht1,ht,ht2⟩ ?_
    refine Wp.loopK kR (fun (x:Nat×Nat×List FT)=>⟨[(1,TV.v (V1.c (Cell.str r))),(2,TV.v (V1.c (Cell.ptr 0 (0:Nat)))),(4,TV.v (V1.c (Cell.ptr 16 (0:Nat)))),(9,TV.v (V1.c (Cell.row 2 464 0 x.2.1))),(10,TV.v (V1.c (Cell.int .i64 (x.1:Int))))],[(0,Blk.box 110 [Cell.str [],encH l,Cell.str []]),(16,Blk.box 110 [Cell.str [],Cell.nilsl,Cell.str []]),(464,.row 103 2 x.2.1 (rowF encF .nil x.2.2))],480⟩) (fun x=>x.1≤l.length∧x.2.1=x.2.2.length∧x.2.1≤x.1∧x.2.2=(l.take x.1).filter notCl) (fun x=>l.length-x.1) (0,0,[]) (Ent.trans (Ent.empT (t:=9) (sz:=2) (e:=103) (f:=(rowF encF .nil [])) dC kR rfl) (Ent.of [] kR kR kR trivial)) ⟨Nat.zero_le _,rfl,Nat.le_refl _,rfl⟩ ?_
    rintro ⟨k,n,H⟩ L ⟨hk,hnH,hnk,hH⟩ again
    simp only at hk hnH hnk hH
    rcases Nat.lt_or_ge k l.length with hlt | hge
    ·have hst:=filt_step l k hlt
     cases hcl:(l.getD k .nil).name==clN with
     | true =>
      rw [hcl,if_pos rfl,← hH] at hst
      have hb:(!((l.getD k .nil).name==clN))=false:=by rw [hcl];rfl
      have hst:=hst.symm
      clear hH hcl
      refine zg [] [true,false] [decide ((k:Int)<(l.length:Int))=true,(0:Int)≤(k:Int)∧(k:Int)<(l.length:Int),(!(l.getD k .nil).name==[(99:UInt8),111,110,116,101,110,116,45,108,101,110,103,116,104])=false,inR .i64 ((k:Int)+1)] ⟨sO,oM,aS,i6⟩ ?_
      exact za [] (again _ (k+1,n,H) ⟨aS,⟨aS,⟨sO,aS⟩⟩⟩ oM)
     | false =>
      rw [hcl,if_neg dC,← hH] at hst
      have hb:(!((l.getD k .nil).name==clN))=true:=by rw [hcl];rfl
      have hst:=hst.symm
      have e3:BlkEqv (.row 103 2 (n+1) (catF n (rowF encF .nil H) (fun i j=>nthD (encF (l.getD k .nil)) ((0+i)*2+j)))) (.row 103 2 (n+1) (rowF encF .nil (H++[l.getD k .nil]))):=enc_app H _ hnH
      have q2:n+1=(H++[l.getD k .nil]).length:=by simp [hnH]
      clear hH hcl
      refine zg [(18,{bs:=[(7,.row 103 2 (n+1) (rowF encF .nil (H++[l.getD k .nil])))]})] [true,true] [decide ((k:Int)<(l.length:Int))=true,(0:Int)≤(k:Int)∧(k:Int)<(l.length:Int),(!(l.getD k .nil).name==[(99:UInt8),111,110,116,101,110,116,45,108,101,110,103,116,104])=true,(0:Int)≤(k:Int)∧(k:Int)<(l.length:Int),(n+1)*32≤140737488355328,BlkEqv (.row 103 2 (n+1) (catF n (fun i j=>nthD [.str (H.getD i .nil).name,.str (H.getD i .nil).value] j) fun i j=>nthD [nthD [.str (l.getD k .nil).name,.str (l.getD k .nil).value] 0,nthD [.str (l.getD k .nil).name,.str (l.getD k .nil).value] (0+1)] ((0+i)*2+j))) (.row 103 2 (n+1) (rowF encF FT.nil (H++[l.getD k .nil]))),n≤n,0+1≤1,inR .i64 ((k:Int)+1)] ⟨sO,oM,aS,oM,oM,aS,oM,oM,i6⟩ ?_
      exact za [(464,784)] (again _ (k+1,n+1,H++[l.getD k .nil]) ⟨aS,⟨aS,⟨sO,aS⟩⟩⟩ oM)
    ·rw [List.take_of_length_le hge] at hH
     rw [← hH]
     clear hH again
     refine Wp.ent' kR (Ent.pubT (e:=103) (sz:=2) (id:=464) (t:=9) (off:=0) (m:=n) (n:=n) (f:=(rowF encF .nil H)) (m':=H.length) (f':=(fun i j=>nthD (encF (H.getD i .nil)) j)) kR kR oM hnH (fun i _ j _=>by rw [Nat.zero_add];rfl) rfl) ?_
     refine zg [] [false] [decide ((k:Int)<(l.length:Int))=false] (oN sO) ?_
     exact zr
   ·rw [if_neg h5] at he;cases he
theorem szE_f (z r:List UInt8):szE z false r=if r=[] then 0 else 3:=rfl
theorem body13_e (l:List FT) (r:List UInt8) (hl:l.length<1000000) (hv:((fGet l clN).getD []).length<1000000000) (hr:r.length<1000000000) (h:bodyE l r≠0):Pur Tryz.prog G 57 [.agg (pT l []),.c (.str r)] [.agg (pT l []),.c (.int .i64 (bodyE l r))]:=by
 unfold bodyE at *
 cases hg:fGet l clN with
 | none =>
  rw [hg] at h
  rw [show (none:Option (List UInt8)).isSome=false from rfl,szE_f] at h ⊢
  by_cases hn:r=[]
  ·rw [if_pos hn] at h;exact (h rfl).elim
  ·rw [if_neg hn];exact body13_nof l r hl hg hn
 | some v =>
  rw [hg] at h hv
  exact body13_no l r v hl hv hr hg h
theorem body13_0 (l:List FT) (r:List UInt8) (hl:l.length<1000000) (hv:((fGet l clN).getD []).length<1000000000) (hr:r.length<1000000000) (h:bodyE l r=0):Pur Tryz.prog G 57 [.agg (pT l []),.c (.str r)] [.agg (pT (l.filter notCl) r),.c (.int .i64 0)]:=by
 unfold bodyE at *
 cases hg:fGet l clN with
 | none =>
  rw [hg] at h
  rw [show (none:Option (List UInt8)).isSome=false from rfl,szE_f] at h
  by_cases hn:r=[]
  ·rw [filter_none hg,hn];exact body13_non l [] hl hg rfl
  ·rw [if_neg hn] at h;cases h
 | some v =>
  rw [hg] at h hv
  exact body13_yes l r v hl hv hr hg h
theorem nilR_eqv:EqvD (.agg [.int .i64 0,.nilsl,.str []]) (.agg (encT nilR)):=agg_eqv (.cons CEq.rfl' (.cons CEq.nil (.cons CEq.rfl' .nil)))
theorem drop1_eqv' (s:List UInt8) (n:Nat) (hn:n=(linesH s).length-1):EqvD (.c (.sl 1 n (fun i j=>strsF (linesH s) (1+i) j))) (.c (encL (fieldsL s))):=drop1_eqv _ _ hn
theorem parse13R_ok (s:List UInt8) (hl:s.length<1000000000):Pur Tryz.prog G 28 [.c (.str s)] [.agg (encT (parseR s).1),.c (.int .i64 (parseR s).2)]:=by
 have e0:=nilR_eqv
 have hb:(hdC s).2.1.length≤s.length:=(cut_len s [13,10,13,10]).2
 by_cases hsp:splitH s≠0
 ·have hr:readH tellB s=([],splitH s):=by unfold readH;rw [if_pos hsp]
  have hp:parseR s=(nilR,splitH s):=by unfold parseR;rw [hr,if_neg hsp]
  rw [hp]
  have c1:=splitH_no (G:=G) hl hsp
  have ht:(splitH s != 0)=true:=bne_iff_ne.2 hsp
  generalize splitH s=e at *
  clear hr hp hsp
  refine zp Tryz.func28 ?_
  refine zg [(3,{fm:=[(0,.agg (encT nilR))]}),(1,{cs:=[(1,pc c1)]})] [true] [(e != (0:Int))=true,EqvI (.agg [.int .i64 0,.nilsl,.str []]) (.agg (encT nilR)),EqvD (.agg [.int .i64 0,.nilsl,.str []]) (.agg (encT nilR))] ⟨aS,eqvI_flat _ _ kR,(show EqvD (.agg [.int .i64 (0:Int),.nilsl,.str []]) (.agg (encT nilR)) from aS)⟩ ?_
  exact zr
 ·have hsp:splitH s=0:=by omega
  have c1:=split13_yes (G:=G) s hl hsp
  have hfs:=first_sm s
  have hfl:=fldsL_sm s
  have hcl:=cl_sm s
  have hpos:=lines_pos s
  have h25:(linesH s).length≤25:=by
   unfold splitH at hsp
   split at hsp
   ·cases hsp
   ·split at hsp
    ·cases hsp
    ·split at hsp
     ·cases hsp
     ·omega
  have hfn:(fieldsL s).length<1000000:=by unfold fieldsL;rw [List.length_drop];omega
  have hfe:∀ k,((fieldsL s).getD k []).length<1000000000:=fun k=>by
   rw [List.getD_eq_getElem?_getD]
   cases hx:(fieldsL s)[k]? with
   | none=>show 0<_; omega
   | some x=>have:=hfl x (List.mem_of_getElem? hx); simp; omega
  have e1:=drop1_eqv' s ((linesH s).length-1) rfl
  have hi0:(0:Int)≤0∧(0:Int)<((linesH s).length:Int):=by omega
  cases hf:tellB (firstH s) with
  | false =>
   have hr:=readH_line hsp hf
   have hp:parseR s=(nilR,3):=by unfold parseR;rw [hr];rfl
   rw [hp]
   have c2:Pur Tryz.prog G 64 [.c (.str ((linesH s).getD 0 []))] [.c (.int .i64 (tell13N (firstH s))),.c (.bool false)]:=by have:=tell13_ok (G:=G) (firstH s) oM;rw [(tell13B_eq (firstH s)).1,hf] at this;exact this
   clear hr hp hf hsp
   refine zp Tryz.func28 ?_
   refine zg [(6,{fm:=[(0,.agg (encT nilR))]}),(1,{cs:=[(1,pc c1)]}),(4,{cs:=[(3,pc c2)]})] [false,true] [((0:Int) != (0:Int))=false,(0:Int)≤(0:Int)∧(0:Int)<(↑(linesH s).length:Int),(!false)=true,EqvI (.agg [.int .i64 0,.nilsl,.str []]) (.agg (encT nilR)),EqvD (.agg [.int .i64 0,.nilsl,.str []]) (.agg (encT nilR))] ⟨rfl,oM,rfl,eqvI_flat _ _ kR,(show EqvD (.agg [.int .i64 (0:Int),.nilsl,.str []]) (.agg (encT nilR)) from aS)⟩ ?_
   exact zr
  | true =>
   have c2:Pur Tryz.prog G 64 [.c (.str ((linesH s).getD 0 []))] [.c (.int .i64 (tellN ((linesH s).getD 0 []))),.c (.bool true)]:=by have:=tell13_ok (G:=G) (firstH s) oM;rw [(tell13B_eq (firstH s)).1,(tell13B_eq (firstH s)).2 hf,hf] at this;exact this
   have c3:=fields13_ok (G:=G) (fieldsL s) hfe hfn
   cases hO:fieldsO (fieldsL s) [] with
   | false =>
    have hr:=readH_flds hsp hf hO
    have hp:parseR s=(nilR,3):=by unfold parseR;rw [hr];rfl
    rw [hp]
    rw [hO,if_neg dC,if_neg dC] at c3
    clear hr hp hf hsp hO
    refine zp Tryz.func28 ?_
    refine zg [(7,{cs:=[(2,pc c3)],fm:=[(1,.c (encL (fieldsL s)))]}),(9,{fm:=[(0,.agg (encT nilR))]}),(1,{cs:=[(1,pc c1)]}),(4,{cs:=[(3,pc c2)]})] [false,false,true] [((0:Int) != (0:Int))=false,(0:Int)≤(0:Int)∧(0:Int)<(↑(linesH s).length:Int),(!true)=false,EqvI (.c (.sl 1 ((Int.ofNat (linesH s).length).toNat-(1:Nat)) fun i j=>strsF (linesH s) ((1:Nat)+i) j)) (.c (encL (fieldsL s))),EqvD (.c (.sl 1 ((Int.ofNat (linesH s).length).toNat-(1:Nat)) fun i j=>strsF (linesH s) ((1:Nat)+i) j)) (.c (encL (fieldsL s))),(0:Int)≤Int.ofNat (1)∧Int.ofNat (1)≤Int.ofNat (linesH s).length∧Int.ofNat (linesH s).length≤(↑(linesH s).length:Int),((3:Int) != (0:Int))=true,EqvI (.agg [.int .i64 0,.nilsl,.str []]) (.agg (encT nilR)),EqvD (.agg [.int .i64 0,.nilsl,.str []]) (.agg (encT nilR))] ⟨rfl,oM,rfl,fun _ _=>trivial,aS,⟨dC,⟨sO,(by simp;done)⟩⟩,rfl,eqvI_flat _ _ kR,(show EqvD (.agg [.int .i64 (0:Int),.nilsl,.str []]) (.agg (encT nilR)) from aS)⟩ ?_
    exact zr
   | true =>
    have hr:=readH_end hsp hf hO
    rw [hO,if_pos rfl,if_pos rfl] at c3
    have hA:(fieldsA (fieldsL s) []).length<1000000:=by
     have:=fA_len (fieldsL s) []
     unfold fieldsL at *
     rw [List.length_drop,List.length_nil] at this
     omega
    by_cases he:bodyE (fieldsA (fieldsL s) []) (hdC s).2.1=0
    ·rw [if_pos he] at hr
     have c4:=body13_0 (G:=G) _ _ hA oM oM he
     have hp:parseR s=(⟨tellN (firstH s),(fieldsA (fieldsL s) []).filter notCl,(hdC s).2.1⟩,0):=by unfold parseR;rw [hr];rfl
     rw [hp]
     unfold firstH
     generalize fieldsA (fieldsL s) []=A at *
     clear hr hp hf hsp hO he
     refine zp Tryz.func28 ?_
     refine zg [(7,{cs:=[(2,pc c3)],fm:=[(1,.c (encL (fieldsL s)))]}),(1,{cs:=[(1,pc c1)]}),(4,{cs:=[(3,pc c2)]}),(10,{cs:=[(3,pc c4)]})] [false,false,false,false] [((0:Int) != (0:Int))=false,(0:Int)≤(0:Int)∧(0:Int)<(↑(linesH s).length:Int),(!true)=false,EqvI (.c (.sl 1 ((Int.ofNat (linesH s).length).toNat-(1:Nat)) fun i j=>strsF (linesH s) ((1:Nat)+i) j)) (.c (encL (fieldsL s))),EqvD (.c (.sl 1 ((Int.ofNat (linesH s).length).toNat-(1:Nat)) fun i j=>strsF (linesH s) ((1:Nat)+i) j)) (.c (encL (fieldsL s))),(0:Int)≤Int.ofNat (1)∧Int.ofNat (1)≤Int.ofNat (linesH s).length∧Int.ofNat (linesH s).length≤(↑(linesH s).length:Int),((0:Int) != (0:Int))=false,((0:Int) != (0:Int))=false] ⟨rfl,oM,rfl,fun _ _=>trivial,aS,⟨dC,⟨sO,(by simp;done)⟩⟩,rfl,rfl⟩ ?_
     exact zr
    ·rw [if_neg he] at hr
     have c4:=body13_e (G:=G) _ _ hA oM oM he
     have hp:parseR s=(nilR,bodyE (fieldsA (fieldsL s) []) (hdC s).2.1):=by unfold parseR;rw [hr,if_neg he]
     rw [hp]
     have ht:(bodyE (fieldsA (fieldsL s) []) (hdC s).2.1 != 0)=true:=bne_iff_ne.2 he
     generalize bodyE (fieldsA (fieldsL s) []) (hdC s).2.1=e at *
     generalize fieldsA (fieldsL s) []=A at *
     clear hr hp hf hsp hO he
     refine zp Tryz.func28 ?_
     refine zg [(7,{cs:=[(2,pc c3)],fm:=[(1,.c (encL (fieldsL s)))]}),(12,{fm:=[(0,.agg (encT nilR))]}),(1,{cs:=[(1,pc c1)]}),(4,{cs:=[(3,pc c2)]}),(10,{cs:=[(3,pc c4)]})] [false,false,false,true] [((0:Int) != (0:Int))=false,(0:Int)≤(0:Int)∧(0:Int)<(↑(linesH s).length:Int),(!true)=false,EqvI (.c (.sl 1 ((Int.ofNat (linesH s).length).toNat-(1:Nat)) fun i j=>strsF (linesH s) ((1:Nat)+i) j)) (.c (encL (fieldsL s))),EqvD (.c (.sl 1 ((Int.ofNat (linesH s).length).toNat-(1:Nat)) fun i j=>strsF (linesH s) ((1:Nat)+i) j)) (.c (encL (fieldsL s))),(0:Int)≤Int.ofNat (1)∧Int.ofNat (1)≤Int.ofNat (linesH s).length∧Int.ofNat (linesH s).length≤(↑(linesH s).length:Int),((0:Int) != (0:Int))=false,(e != (0:Int))=true,EqvI (.agg [.int .i64 0,.nilsl,.str []]) (.agg (encT nilR)),EqvD (.agg [.int .i64 0,.nilsl,.str []]) (.agg (encT nilR))] ⟨rfl,oM,rfl,fun _ _=>trivial,aS,⟨dC,⟨sO,(by simp;done)⟩⟩,rfl,aS,eqvI_flat _ _ kR,(show EqvD (.agg [.int .i64 (0:Int),.nilsl,.str []]) (.agg (encT nilR)) from aS)⟩ ?_
     exact zr
def askedM (r:QT):MT:=⟨r.method++[32]++r.target++[32]++httpV,r.head,r.body⟩
theorem asked_ok (r:QT) (h1:r.method.length<1000000000) (h2:r.target.length<1000000000):Pur Tryz.prog G 208 [.agg (encQ r)] [.agg (encM (askedM r)++encQ r)]:=by
 refine zp Tryz.func208 ?_
 have q1:r.method.length+1≤9223372036854775807:=by omega
 have q2:(r.method++[32]).length+r.target.length≤9223372036854775807:=by simp;omega
 have q3:(r.method++[32]++r.target).length+1≤9223372036854775807:=by simp;omega
 have q4:(r.method++[32]++r.target++[32]).length+8≤9223372036854775807:=by simp;omega
 refine zg [] [] [r.method.length+1≤9223372036854775807,(r.method++[(32:UInt8)]).length+r.target.length≤(9223372036854775807:Nat),(r.method++[(32:UInt8)]++r.target).length+(1:Nat)≤(9223372036854775807:Nat),(r.method++[(32:UInt8)]++r.target++[(32:UInt8)]).length+(8:Nat)≤(9223372036854775807:Nat)] ⟨aS,aS,aS,(show (r.method++[(32:UInt8)]++r.target++[(32:UInt8)]).length+(8:Nat)≤(9223372036854775807:Nat) from aS)⟩ ?_
 exact zr
def mayAskT (r:QT):Bool:=bif linedT r.method r.target then mayM (askedM r) else false
structure FitQ (r:QT):Prop where
 h1:r.method.length<1000000000
 h2:r.target.length<1000000000
 h3:FitM (askedM r)
theorem mayAsk_ok (hp:HasPow G) (r:QT) (h:FitQ r):Pur Tryz.prog G 207 [.agg (encQ r)] [.c (.bool (mayAskT r))]:=by
 refine zp Tryz.func207 ?_
 have c1:=lined_ok (G:=G) r.method r.target (Nat.lt_trans h.h1 dC) (Nat.lt_trans h.h2 dC)
 have c2:=asked_ok (G:=G) r h.h1 h.h2
 have c3:=mayM_ok hp (askedM r) h.h3
 unfold mayAskT
 refine z0 [(1,{cs:=[(4,pc c1),(7,pc c2),(9,pc c3)]})] [] ?_
 exact zr
def printAskT (r:QT):List UInt8:=if mayAskT r then aheadT (askedM r)++r.body else []
theorem printAsk_ok (hp:HasPow G) (r:QT) (h:FitQ r):Pur Tryz.prog G 152 [.agg (encQ r)] [.c (.str (printAskT r))]:=by
 refine zp Tryz.func152 ?_
 have c1:=mayAsk_ok hp r h
 have c2:=asked_ok (G:=G) r h.h1 h.h2
 have c3:Pur Tryz.prog G 177 [.agg (encM (askedM r))] [.c (.str (aheadT (askedM r)++r.body))]:=printM_ok hp (askedM r) h.h3
 unfold printAskT
 generalize aheadT (askedM r)++r.body=S at c3 ⊢
 cases hm:mayAskT r with
 | true =>
  rw [if_pos rfl]
  rw [hm] at c1
  clear hm
  refine zg [(1,{cs:=[(1,pc c1)]}),(3,{cs:=[(1,pc c2),(3,pc c3)]})] [false] [(!true)=false] rfl ?_
  exact zr
 | false =>
  rw [if_neg dC]
  rw [hm] at c1
  clear hm
  refine zg [(1,{cs:=[(1,pc c1)]})] [true] [(!false)=true] rfl ?_
  exact zr
def okF (f:FT):Bool:=tokenT f.name&&((foldT f.name==f.name)&&(!(f.name==clN)&&f.value.all seenB))
def mostT (b:List UInt8):Int:=if b==[] then 24 else 23
def headT (l:List FT) (b:List UInt8):Bool:=l.all okF&&(decide ((l.length:Int)≤mostT b)&&(unlikeQ l&&decide ((b.length:Int)≤4096)))
theorem okF_b (t f c s:Bool):(bif bif bif !t then true else !f then true else c then true else !s) = !(t&&(f&&(!c&&s))):=by
 cases t<;>cases f<;>cases c<;>cases s<;>rfl
theorem head13_ok (l:List FT) (b:List UInt8) (hl:l.length<1000000000) (hs:∀ f∈l,f.name.length<1000000000∧f.value.length<1000000000):Pur Tryz.prog G 162 [.c (encH l),.c (.str b)] [.c (.bool (headT l b))]:=by
 refine zp Tryz.func162 ?_
 have c0:=unlike10_ok (G:=G) l oM
 cases hbe:b==[] with
 | true =>
  have ht:(!(b==[]))=false:=by rw [hbe];rfl
  have hm:mostT b=24:=by unfold mostT;rw [if_pos hbe]
  refine zg [] [false] [(!b==[])=false] ht ?_
  refine zl (fun (k:Nat)=>⟨[(0,.v (.c (encH l))),(1,.v (.c (.str b))),(5,.v (.c (.int .i64 24))),(6,.v (.c (.int .i64 (k:Int))))],[],80⟩) (fun k=>k≤l.length∧l.all okF=(l.drop k).all okF) (fun k=>l.length-k) 0 ⟨Nat.zero_le _,rfl⟩ ?_
  intro k L ⟨hk,hq⟩ again
  rcases Nat.lt_or_ge k l.length with hlt | hge
  ·rw [dropM l .nil k hlt,List.all_cons] at hq
   have hmem:l.getD k .nil∈l:=by simp [List.getD,hlt]
   obtain ⟨s1,s2⟩:=hs _ hmem
   have c1:=token6_ok (G:=G) (l.getD k .nil).name oM
   have c2:=fold6_ok (G:=G) (l.getD k .nil).name oM
   have c3:=seen6_ok (G:=G) (l.getD k .nil).value oM
   have hb:=okF_b (tokenT (l.getD k .nil).name) (foldT (l.getD k .nil).name==(l.getD k .nil).name) ((l.getD k .nil).name==clN) ((l.getD k .nil).value.all seenB)
   cases ho:okF (l.getD k .nil) with
   | true =>
    rw [ho,Bool.true_and] at hq
    unfold okF at ho
    rw [ho] at hb
    have hb:(bif bif bif !tokenT (l.getD k .nil).name then true else !(foldT (l.getD k .nil).name==(l.getD k .nil).name) then true else ((l.getD k .nil).name==clN) then true else !((l.getD k .nil).value.all seenB))=false:=hb
    clear ho
    refine zg [(7,{cs:=[(5,pc c1),(13,pc c2),(35,pc c3)]})] [true,false] [decide ((k:Int)<(l.length:Int))=true,(0:Int)≤(k:Int)∧(k:Int)<(l.length:Int),(!tokenT (l.getD k .nil).name)=false→(0:Int)≤(k:Int)∧(k:Int)<(l.length:Int),(!tokenT (l.getD k .nil).name)=false→(0:Int)≤(k:Int)∧(k:Int)<(l.length:Int),(bif !tokenT (l.getD k .nil).name then true else !foldT (l.getD k .nil).name==(l.getD k .nil).name)=false→(0:Int)≤(k:Int)∧(k:Int)<(l.length:Int),(bif bif !tokenT (l.getD k .nil).name then true else !foldT (l.getD k .nil).name==(l.getD k .nil).name then true else (l.getD k .nil).name==[(99:UInt8),111,110,116,101,110,116,45,108,101,110,103,116,104])=false→(0:Int)≤(k:Int)∧(k:Int)<(l.length:Int),(bif bif bif !tokenT (l.getD k .nil).name then true else !foldT (l.getD k .nil).name==(l.getD k .nil).name then true else (l.getD k .nil).name==[(99:UInt8),111,110,116,101,110,116,45,108,101,110,103,116,104] then true else !(l.getD k .nil).value.all seenB)=false,inR .i64 ((k:Int)+1)] ⟨sO,oM,oM,oM,oM,oM,aS,i6⟩ ?_
    exact za [] (again _ (k+1) ⟨aS,aS⟩ oM)
   | false =>
    rw [ho,Bool.false_and] at hq
    unfold okF at ho
    rw [ho] at hb
    have hb:(bif bif bif !tokenT (l.getD k .nil).name then true else !(foldT (l.getD k .nil).name==(l.getD k .nil).name) then true else ((l.getD k .nil).name==clN) then true else !((l.getD k .nil).value.all seenB))=true:=hb
    rw [show headT l b=false from by unfold headT;rw [hq];rfl]
    clear ho hq again
    refine zg [(7,{cs:=[(5,pc c1),(13,pc c2),(35,pc c3)]})] [true,true] [decide ((k:Int)<(l.length:Int))=true,(0:Int)≤(k:Int)∧(k:Int)<(l.length:Int),(!tokenT (l.getD k .nil).name)=false→(0:Int)≤(k:Int)∧(k:Int)<(l.length:Int),(!tokenT (l.getD k .nil).name)=false→(0:Int)≤(k:Int)∧(k:Int)<(l.length:Int),(bif !tokenT (l.getD k .nil).name then true else !foldT (l.getD k .nil).name==(l.getD k .nil).name)=false→(0:Int)≤(k:Int)∧(k:Int)<(l.length:Int),(bif bif !tokenT (l.getD k .nil).name then true else !foldT (l.getD k .nil).name==(l.getD k .nil).name then true else (l.getD k .nil).name==[(99:UInt8),111,110,116,101,110,116,45,108,101,110,103,116,104])=false→(0:Int)≤(k:Int)∧(k:Int)<(l.length:Int),(bif bif bif !tokenT (l.getD k .nil).name then true else !foldT (l.getD k .nil).name==(l.getD k .nil).name then true else (l.getD k .nil).name==[(99:UInt8),111,110,116,101,110,116,45,108,101,110,103,116,104] then true else !(l.getD k .nil).value.all seenB)=true] ⟨sO,oM,oM,oM,oM,oM,(show (bif bif bif !tokenT (l.getD k .nil).name then true else !foldT (l.getD k .nil).name==(l.getD k .nil).name then true else (l.getD k .nil).name==[(99:UInt8),111,110,116,101,110,116,45,108,101,110,103,116,104] then true else !(l.getD k .nil).value.all seenB)=true from aS)⟩ ?_
    exact zr
  ·rw [List.drop_of_length_le hge,List.all_nil] at hq
   rw [show headT l b=(bif bif decide ((l.length:Int)≤24) then unlikeQ l else false then decide ((b.length:Int)≤4096) else false) from by unfold headT;rw [hq,hm];cases decide ((l.length:Int)≤24)<;>cases unlikeQ l<;>rfl]
   clear hq again
   refine zg [(9,{cs:=[(6,pc c0)]})] [false] [decide ((k:Int)<(l.length:Int))=false] (oN sO) ?_
   exact zr
 | false =>
  have ht:(!(b==[]))=true:=by rw [hbe];rfl
  have hm:mostT b=23:=by unfold mostT;rw [hbe];rfl
  refine zg [] [true] [(!b==[])=true,inR .i64 (24-1)] ⟨ht,inR64 dC dC⟩ ?_
  refine zl (fun (k:Nat)=>⟨[(0,.v (.c (encH l))),(1,.v (.c (.str b))),(5,.v (.c (.int .i64 ((24:Int)-1)))),(6,.v (.c (.int .i64 (k:Int))))],[],128⟩) (fun k=>k≤l.length∧l.all okF=(l.drop k).all okF) (fun k=>l.length-k) 0 ⟨Nat.zero_le _,rfl⟩ ?_
  intro k L ⟨hk,hq⟩ again
  rcases Nat.lt_or_ge k l.length with hlt | hge
  ·rw [dropM l .nil k hlt,List.all_cons] at hq
   have hmem:l.getD k .nil∈l:=by simp [List.getD,hlt]
   obtain ⟨s1,s2⟩:=hs _ hmem
   have c1:=token6_ok (G:=G) (l.getD k .nil).name oM
   have c2:=fold6_ok (G:=G) (l.getD k .nil).name oM
   have c3:=seen6_ok (G:=G) (l.getD k .nil).value oM
   have hb:=okF_b (tokenT (l.getD k .nil).name) (foldT (l.getD k .nil).name==(l.getD k .nil).name) ((l.getD k .nil).name==clN) ((l.getD k .nil).value.all seenB)
   cases ho:okF (l.getD k .nil) with
   | true =>
    rw [ho,Bool.true_and] at hq
    unfold okF at ho
    rw [ho] at hb
    have hb:(bif bif bif !tokenT (l.getD k .nil).name then true else !(foldT (l.getD k .nil).name==(l.getD k .nil).name) then true else ((l.getD k .nil).name==clN) then true else !((l.getD k .nil).value.all seenB))=false:=hb
    clear ho
    refine zg [(7,{cs:=[(5,pc c1),(13,pc c2),(35,pc c3)]})] [true,false] [decide ((k:Int)<(l.length:Int))=true,(0:Int)≤(k:Int)∧(k:Int)<(l.length:Int),(!tokenT (l.getD k .nil).name)=false→(0:Int)≤(k:Int)∧(k:Int)<(l.length:Int),(!tokenT (l.getD k .nil).name)=false→(0:Int)≤(k:Int)∧(k:Int)<(l.length:Int),(bif !tokenT (l.getD k .nil).name then true else !foldT (l.getD k .nil).name==(l.getD k .nil).name)=false→(0:Int)≤(k:Int)∧(k:Int)<(l.length:Int),(bif bif !tokenT (l.getD k .nil).name then true else !foldT (l.getD k .nil).name==(l.getD k .nil).name then true else (l.getD k .nil).name==[(99:UInt8),111,110,116,101,110,116,45,108,101,110,103,116,104])=false→(0:Int)≤(k:Int)∧(k:Int)<(l.length:Int),(bif bif bif !tokenT (l.getD k .nil).name then true else !foldT (l.getD k .nil).name==(l.getD k .nil).name then true else (l.getD k .nil).name==[(99:UInt8),111,110,116,101,110,116,45,108,101,110,103,116,104] then true else !(l.getD k .nil).value.all seenB)=false,inR .i64 ((k:Int)+1)] ⟨sO,oM,oM,oM,oM,oM,aS,i6⟩ ?_
    exact za [] (again _ (k+1) ⟨aS,aS⟩ oM)
   | false =>
    rw [ho,Bool.false_and] at hq
    unfold okF at ho
    rw [ho] at hb
    have hb:(bif bif bif !tokenT (l.getD k .nil).name then true else !(foldT (l.getD k .nil).name==(l.getD k .nil).name) then true else ((l.getD k .nil).name==clN) then true else !((l.getD k .nil).value.all seenB))=true:=hb
    rw [show headT l b=false from by unfold headT;rw [hq];rfl]
    clear ho hq again
    refine zg [(7,{cs:=[(5,pc c1),(13,pc c2),(35,pc c3)]})] [true,true] [decide ((k:Int)<(l.length:Int))=true,(0:Int)≤(k:Int)∧(k:Int)<(l.length:Int),(!tokenT (l.getD k .nil).name)=false→(0:Int)≤(k:Int)∧(k:Int)<(l.length:Int),(!tokenT (l.getD k .nil).name)=false→(0:Int)≤(k:Int)∧(k:Int)<(l.length:Int),(bif !tokenT (l.getD k .nil).name then true else !foldT (l.getD k .nil).name==(l.getD k .nil).name)=false→(0:Int)≤(k:Int)∧(k:Int)<(l.length:Int),(bif bif !tokenT (l.getD k .nil).name then true else !foldT (l.getD k .nil).name==(l.getD k .nil).name then true else (l.getD k .nil).name==[(99:UInt8),111,110,116,101,110,116,45,108,101,110,103,116,104])=false→(0:Int)≤(k:Int)∧(k:Int)<(l.length:Int),(bif bif bif !tokenT (l.getD k .nil).name then true else !foldT (l.getD k .nil).name==(l.getD k .nil).name then true else (l.getD k .nil).name==[(99:UInt8),111,110,116,101,110,116,45,108,101,110,103,116,104] then true else !(l.getD k .nil).value.all seenB)=true] ⟨sO,oM,oM,oM,oM,oM,(show (bif bif bif !tokenT (l.getD k .nil).name then true else !foldT (l.getD k .nil).name==(l.getD k .nil).name then true else (l.getD k .nil).name==[(99:UInt8),111,110,116,101,110,116,45,108,101,110,103,116,104] then true else !(l.getD k .nil).value.all seenB)=true from aS)⟩ ?_
    exact zr
  ·rw [List.drop_of_length_le hge,List.all_nil] at hq
   rw [show headT l b=(bif bif decide ((l.length:Int)≤(24:Int)-1) then unlikeQ l else false then decide ((b.length:Int)≤4096) else false) from by unfold headT;rw [hq,hm,show (24:Int)-1=23 from rfl];cases decide ((l.length:Int)≤23)<;>cases unlikeQ l<;>rfl]
   clear hq again
   refine zg [(9,{cs:=[(6,pc c0)]})] [false] [decide ((k:Int)<(l.length:Int))=false] (oN sO) ?_
   exact zr
def hdN (l:List FT) (k:Nat):List UInt8:=(l.take k).flatMap fieldL
theorem hdN_succ (l:List FT) (k:Nat) (h:k<l.length):hdN l (k+1)=hdN l k++fieldL (l.getD k .nil):=by
 unfold hdN
 rw [List.take_succ_eq_append_getElem h,List.flatMap_append,List.getD_eq_getElem?_getD,List.getElem?_eq_getElem h]
 simp
theorem hdN_le (l:List FT) (k:Nat):(hdN l k).length≤(l.flatMap fieldL).length:=by
 unfold hdN
 conv=>rhs;rw [← List.take_append_drop k l,List.flatMap_append,List.length_append]
 omega
def clL (b:List UInt8):List UInt8:=if b==[] then [] else [99,111,110,116,101,110,116,45,108,101,110,103,116,104,58,32]++Lib.itoa b.length++[13,10]
def linesT (l:List FT) (b:List UInt8):List UInt8:=l.flatMap fieldL++clL b++[13,10]
theorem ahead_lines (m:MT):aheadT m=m.first++[13,10]++linesT m.head m.body:=by
 unfold aheadT headN linesT lenL clL
 rw [List.take_length]
 simp
theorem lines13_ok (l:List FT) (b:List UInt8) (hn:l.length<1000000000) (hb:b.length<1000000000) (hl:(linesT l b).length≤100000000000000):Pur Tryz.prog G 103 [.c (encH l),.c (.str b)] [.c (.str (linesT l b))]:=by
 refine zp Tryz.func103 ?_
 have hL1:(l.flatMap fieldL).length+(clL b).length+2≤100000000000000:=by
  unfold linesT at hl
  simp only [List.length_append] at hl
  exact hl
 refine z0 [] [] ?_
 refine zl (fun (x:Nat×List UInt8)=>⟨[(0,.v (.c (encH l))),(1,.v (.c (.str b))),(5,.v (.c (.str x.2))),(6,.v (.c (.int .i64 (x.1:Int))))],[],48⟩) (fun x=>x.1≤l.length∧x.2=hdN l x.1) (fun x=>l.length-x.1) (0,[]) ⟨Nat.zero_le _,rfl⟩ ?_
 rintro ⟨k,s⟩ L ⟨hk,hq⟩ again
 simp only at hk hq
 rcases Nat.lt_or_ge k l.length with hlt | hge
 ·have hsu:=hdN_succ l k hlt
  have hle:=hdN_le l (k+1)
  rw [hsu,List.length_append,field_len,← hq] at hle
  have hq2:s++(l.getD k .nil).name++[58,32]++(l.getD k .nil).value++[13,10]=hdN l (k+1):=by rw [hsu,← hq];unfold fieldL;simp
  have q1:s.length+(l.getD k .nil).name.length≤9223372036854775807:=by omega
  have q2:(s++(l.getD k .nil).name).length+2≤9223372036854775807:=by simp only [List.length_append];omega
  have q3:(s++(l.getD k .nil).name++[58,32]).length+(l.getD k .nil).value.length≤9223372036854775807:=by simp only [List.length_append,List.length_cons,List.length_nil];omega
  have q4:(s++(l.getD k .nil).name++[58,32]++(l.getD k .nil).value).length+2≤9223372036854775807:=by simp only [List.length_append,List.length_cons,List.length_nil];omega
  clear hq hsu
  refine zg [] [true] [decide ((k:Int)<(l.length:Int))=true,(0:Int)≤(k:Int)∧(k:Int)<(l.length:Int),s.length+(l.getD k .nil).name.length≤9223372036854775807,(s++(l.getD k .nil).name).length+2≤9223372036854775807,(0:Int)≤(k:Int)∧(k:Int)<(l.length:Int),(s++(l.getD k .nil).name++[(58:UInt8),32]).length+(l.getD k .nil).value.length≤(9223372036854775807:Nat),(s++(l.getD k .nil).name++[(58:UInt8),32]++(l.getD k .nil).value).length+(2:Nat)≤(9223372036854775807:Nat),inR .i64 ((k:Int)+1)] ⟨sO,oM,aS,aS,oM,aS,aS,i6⟩ ?_
  exact za [] (again _ (k+1,s++(l.getD k .nil).name++[58,32]++(l.getD k .nil).value++[13,10]) ⟨aS,aS⟩ oM)
 ·have hs:s=l.flatMap fieldL:=by rw [hq];unfold hdN;rw [List.take_of_length_le hge]
  unfold linesT
  rw [← hs] at hL1 ⊢
  clear again hq
  cases hbe:b==[] with
  | true =>
   have ht:(!(b==[]))=false:=by rw [hbe];rfl
   rw [show clL b=[] from by unfold clL;rw [if_pos hbe],List.append_nil]
   have q1:s.length+2≤9223372036854775807:=by omega
   refine zg [] [false,false] [decide ((k:Int)<(l.length:Int))=false,(!b==[])=false,s.length+2≤9223372036854775807] ⟨sO,aS,(show s.length+(2:Nat)≤(9223372036854775807:Nat) from aS)⟩ ?_
   exact zr
  | false =>
   have ht:(!(b==[]))=true:=by rw [hbe];rfl
   have hcl:clL b=[99,111,110,116,101,110,116,45,108,101,110,103,116,104,58,32]++Lib.itoa b.length++[13,10]:=by unfold clL;rw [if_neg (by rw [hbe];decide)]
   rw [hcl] at hL1 ⊢
   simp only [List.length_append,List.length_cons,List.length_nil] at hL1
   have c:=digits_ok (G:=G) (b.length:Int) oM oM
   have q1:s.length+16≤9223372036854775807:=by omega
   have q2:(s++[99,111,110,116,101,110,116,45,108,101,110,103,116,104,58,32]).length+(Lib.itoa (b.length:Int)).length≤9223372036854775807:=by simp only [List.length_append,List.length_cons,List.length_nil];omega
   have q3:(s++[99,111,110,116,101,110,116,45,108,101,110,103,116,104,58,32]++Lib.itoa (b.length:Int)).length+2≤9223372036854775807:=by simp only [List.length_append,List.length_cons,List.length_nil];omega
   have q4:(s++[99,111,110,116,101,110,116,45,108,101,110,103,116,104,58,32]++Lib.itoa (b.length:Int)++[13,10]).length+2≤9223372036854775807:=by simp only [List.length_append,List.length_cons,List.length_nil];omega
   rw [show s++([99,111,110,116,101,110,116,45,108,101,110,103,116,104,58,32]++Lib.itoa (b.length:Int)++[13,10])++[13,10]=s++[99,111,110,116,101,110,116,45,108,101,110,103,116,104,58,32]++Lib.itoa (b.length:Int)++[13,10]++[13,10] from by simp only [List.append_assoc]]
   refine zg [(7,{cs:=[(4,pc c)]})] [false,true] [decide ((k:Int)<(l.length:Int))=false,(!b==[])=true,s.length+16≤9223372036854775807,(s++[(99:UInt8),111,110,116,101,110,116,45,108,101,110,103,116,104,58,32]).length+(Lib.itoa (b.length:Int)).length≤(9223372036854775807:Nat),(s++[(99:UInt8),111,110,116,101,110,116,45,108,101,110,103,116,104,58,32]++Lib.itoa (b.length:Int)).length+(2:Nat)≤(9223372036854775807:Nat),(s++[(99:UInt8),111,110,116,101,110,116,45,108,101,110,103,116,104,58,32]++Lib.itoa (b.length:Int)++[(13:UInt8),10]).length+(2:Nat)≤(9223372036854775807:Nat)] ⟨sO,aS,aS,aS,aS,(show (s++[(99:UInt8),111,110,116,101,110,116,45,108,101,110,103,116,104,58,32]++Lib.itoa (↑b.length:Int)++[(13:UInt8),10]).length+(2:Nat)≤(9223372036854775807:Nat) from aS)⟩ ?_
   exact zr
theorem fieldsOk_iff:∀ (l:List FT) (seen:List (List UInt8)),fieldsOk seen l=true↔∀ i,i<l.length→fOk (seen++(l.take i).map (·.name)) (l.getD i .nil)=true
 | [],seen=>by simp [fieldsOk]
 | x::r,seen=>by
  rw [fieldsOk,Bool.and_eq_true,fieldsOk_iff r]
  constructor
  ·rintro ⟨h0,h⟩ i hi
   cases i with
   | zero=>simpa using h0
   | succ i =>
    have:=h i (by simpa using hi)
    simpa using this
  ·intro h
   refine ⟨by simpa using h 0 (by simp),fun i hi => ?_⟩
   have:=h (i+1) (by simpa using hi)
   simpa using this
theorem fOk_iff (names:List (List UInt8)) (f:FT):fOk ([clN]++names) f=true↔okF f=true∧names.contains f.name=false:=by
 unfold fOk okF
 rw [List.contains_append]
 have:([clN]:List (List UInt8)).contains f.name=(f.name==clN):=by rw [Bool.eq_iff_iff];simp
 rw [this]
 cases tokenT f.name<;>cases (foldT f.name==f.name)<;>cases (f.name==clN)<;>cases f.value.all seenB<;>cases names.contains f.name<;>simp
theorem fieldsOk_eq (l:List FT):fieldsOk [clN] l=(l.all okF&&unlikeQ l):=by
 rw [Bool.eq_iff_iff,fieldsOk_iff,Bool.and_eq_true]
 have hall:l.all okF=true↔∀ i,i<l.length→okF (l.getD i .nil)=true:=by
  rw [List.all_eq_true]
  constructor
  ·intro h i hi
   exact h _ (by simp [List.getD,hi])
  ·intro h x hx
   obtain ⟨i,hi,rfl⟩:=List.getElem_of_mem hx
   have:=h i hi
   simpa [List.getD,hi] using this
 have hunl:unlikeQ l=true↔∀ i,i<l.length→okQ l i=true:=by
  unfold unlikeQ
  rw [List.all_eq_true]
  exact ⟨fun h i hi=>h i (List.mem_range.2 hi),fun h i hi=>h i (List.mem_range.1 hi)⟩
 rw [hall,hunl]
 have hq:∀ i,okQ l i=(!((l.getD i .nil).name==[]) && !((l.take i).map (·.name)).contains (l.getD i .nil).name):=fun i=>by
  unfold okQ;rw [← fGet_isIn,← fGet_con]
 constructor
 ·intro h
  refine ⟨fun i hi=>((fOk_iff _ _).1 (h i hi)).1,fun i hi => ?_⟩
  obtain ⟨h1,h2⟩:=(fOk_iff _ _).1 (h i hi)
  rw [hq,h2]
  have:tokenT (l.getD i .nil).name=true:=by unfold okF at h1;rw [Bool.and_eq_true] at h1;exact h1.1
  unfold tokenT at this
  rw [Bool.and_eq_true] at this
  rw [this.1];rfl
 ·rintro ⟨h1,h2⟩ i hi
  refine (fOk_iff _ _).2 ⟨h1 i hi,?_⟩
  have:=h2 i hi
  rw [hq,Bool.and_eq_true] at this
  simpa using this.2
theorem mayM_eq (m:MT):mayM m=(headT m.head m.body&&decide (((aheadT m).length:Int)≤2048)):=by
 unfold mayM fieldedT headT
 rw [show fieldsOk [[99,111,110,116,101,110,116,45,108,101,110,103,116,104]] m.head=fieldsOk [clN] m.head from rfl,fieldsOk_eq,show roomT m=mostT m.body from rfl]
 cases m.head.all okF<;>cases unlikeQ m.head<;>cases decide ((m.head.length:Int)≤mostT m.body)<;>cases decide ((m.body.length:Int)≤4096)<;>cases decide (((aheadT m).length:Int)≤2048)<;>rfl
def firstQ (r:QT):List UInt8:=r.method++[32]++r.target++[32,72,84,84,80,47,49,46,49]++[13,10]
theorem ahead_Q (r:QT):aheadT (askedM r)=firstQ r++linesT r.head r.body:=by
 rw [ahead_lines]
 unfold askedM firstQ httpV
 simp
theorem first13_ok (r:QT) (h1:r.method.length<1000000000) (h2:r.target.length<1000000000):Pur Tryz.prog G 102 [.agg (encQ r)] [.c (.str (firstQ r))]:=by
 refine zp Tryz.func102 ?_
 have q1:r.method.length+1≤9223372036854775807:=by omega
 have q2:(r.method++[32]).length+r.target.length≤9223372036854775807:=by simp;omega
 have q3:(r.method++[32]++r.target).length+9≤9223372036854775807:=by simp;omega
 have q4:(r.method++[32]++r.target++[32,72,84,84,80,47,49,46,49]).length+2≤9223372036854775807:=by simp;omega
 unfold firstQ
 refine zg [] [] [r.method.length+1≤9223372036854775807,(r.method++[(32:UInt8)]).length+r.target.length≤(9223372036854775807:Nat),(r.method++[(32:UInt8)]++r.target).length+(9:Nat)≤(9223372036854775807:Nat),(r.method++[(32:UInt8)]++r.target++[(32:UInt8),72,84,84,80,47,49,46,49]).length+(2:Nat)≤(9223372036854775807:Nat)] ⟨aS,aS,aS,(show (r.method++[(32:UInt8)]++r.target++[(32:UInt8),72,84,84,80,47,49,46,49]).length+(2:Nat)≤(9223372036854775807:Nat) from aS)⟩ ?_
 exact zr
structure FitH (l:List FT) (b:List UInt8):Prop where
 hn:l.length<1000000000
 hs:∀ f∈l,f.name.length<1000000000∧f.value.length<1000000000
 hb:b.length<1000000000
 hl:(linesT l b).length≤90000000000000
theorem mayAsk_b (r:QT):(bif bif bif methT r.method then targT r.target else false then headT r.head r.body else false then decide (((firstQ r++linesT r.head r.body).length:Int)≤2048) else false)=mayAskT r:=by
 unfold mayAskT linedT
 rw [mayM_eq,ahead_Q]
 show _=bif methT r.method&&targT r.target then headT r.head r.body&&_ else false
 cases methT r.method<;>cases targT r.target<;>cases headT r.head r.body<;>rfl
theorem mayAsk13_ok (r:QT) (h:FitH r.head r.body) (h1:r.method.length<1000000000) (h2:r.target.length<1000000000):Pur Tryz.prog G 101 [.agg (encQ r)] [.c (.bool (mayAskT r))]:=by
 refine zp Tryz.func101 ?_
 have c1:=method13_ok (G:=G) r.method oM
 have c2:=target13_ok (G:=G) r.target oM
 have c3:=head13_ok (G:=G) r.head r.body h.hn h.hs
 have c4:=first13_ok (G:=G) r h1 h2
 have hl:=h.hl
 have c5:=lines13_ok (G:=G) r.head r.body h.hn h.hb oM
 rw [← mayAsk_b]
 have hf:(firstQ r).length≤3000000000:=by unfold firstQ;simp only [List.length_append,List.length_cons,List.length_nil];omega
 generalize firstQ r=S at *
 generalize linesT r.head r.body=T at *
 have q:S.length+T.length≤9223372036854775807:=by omega
 refine zg [(1,{cs:=[(2,pc c1),(6,pc c2),(13,pc c3),(17,pc c4),(22,pc c5)]})] [] [(bif bif methT r.method then targT r.target else false then headT r.head r.body else false)=true→S.length+T.length≤9223372036854775807] (oN oM) ?_
 exact zr
theorem printAsk13_ok (r:QT) (h:FitH r.head r.body) (h1:r.method.length<1000000000) (h2:r.target.length<1000000000):Pur Tryz.prog G 53 [.agg (encQ r)] [.c (.str (printAskT r))]:=by
 refine zp Tryz.func53 ?_
 have c1:=mayAsk13_ok (G:=G) r h h1 h2
 have c4:=first13_ok (G:=G) r h1 h2
 have hl:=h.hl
 have hb:=h.hb
 have c5:=lines13_ok (G:=G) r.head r.body h.hn h.hb oM
 unfold printAskT
 rw [ahead_Q]
 have hf:(firstQ r).length≤3000000000:=by unfold firstQ;simp only [List.length_append,List.length_cons,List.length_nil];omega
 generalize firstQ r=S at *
 generalize linesT r.head r.body=T at *
 have q:S.length+T.length≤9223372036854775807:=by omega
 have q2:(S++T).length+r.body.length≤9223372036854775807:=by rw [List.length_append];omega
 cases hm:mayAskT r with
 | true =>
  rw [if_pos rfl]
  rw [hm] at c1
  clear hm h
  refine zg [(1,{cs:=[(1,pc c1)]}),(3,{cs:=[(1,pc c4),(6,pc c5)]})] [false] [(!true)=false,S.length+T.length≤9223372036854775807,(S++T).length+r.body.length≤9223372036854775807] ⟨rfl,aS,(show (S++T).length+r.body.length≤(9223372036854775807:Nat) from aS)⟩ ?_
  exact zr
 | false =>
  rw [if_neg dC]
  rw [hm] at c1
  clear hm h
  refine zg [(1,{cs:=[(1,pc c1)]})] [true] [(!false)=true] rfl ?_
  exact zr
end Go.Proofs.Tw
end
section

end
section

end
section

end
section
open Go Go.Sv Go.RowKit
namespace Go.Proofs.Tw
attribute [local irreducible] Wp FinQ resV Ent Pur Go.Sv.Fn Sat0
set_option maxRecDepth 100000
set_option maxHeartbeats 4000000
variable {G:Nat→Option (List Cell)} [Back G]
theorem qget_ok (l:List FT) (n:List UInt8) (hl:l.length<4611686018427387904):Pur Tryz.prog G 205 [.c (encH l),.c (.str n)] [.c (.str ((fGet l n).getD [])),.c (.bool (fGet l n).isSome)]:=by
 refine zp Tryz.func205 ?_
 refine z0 [] [] ?_
 refine zl (fun (k:Nat)=>⟨[(1,.v (.c (.str n))),(8,.v (.c (encH l))),(9,.v (.c (.int .i64 (l.length:Int)))),(10,.v (.c (.int .i64 (k:Int))))],[],80⟩) (fun k=>k≤l.length∧fGet l n=fGet (l.drop k) n) (fun k=>l.length-k) 0 ⟨Nat.zero_le _,rfl⟩ ?_
 intro k L ⟨hk,hq⟩ again
 rcases Nat.lt_or_ge k l.length with hlt | hge
 ·rw [dropM l .nil k hlt,fGet_cons] at hq
  cases hb:(l.getD k .nil).name==n with
  | true =>
   rw [hb,if_pos rfl] at hq
   rw [hq]
   clear again hq
   refine zg [] [true,true] [decide ((k:Int)<(l.length:Int))=true,(0:Int)≤(k:Int)∧(k:Int)<(l.length:Int),((l.getD k .nil).name==n)=true] ⟨sO,oM,(show ((l.getD k .nil).name==n)=true from aS)⟩ ?_
   exact zr
  | false =>
   rw [hb,if_neg dC] at hq
   refine zg [] [true,false] [decide ((k:Int)<(l.length:Int))=true,(0:Int)≤(k:Int)∧(k:Int)<(l.length:Int),((l.getD k .nil).name==n)=false,inR .i64 ((k:Int)+1)] ⟨sO,oM,aS,i6⟩ ?_
   exact za [] (again _ (k+1) ⟨aS,aS⟩ oM)
 ·rw [List.drop_of_length_le hge,fGet_nil] at hq
  rw [hq]
  clear hq again
  refine zg [] [false] [decide ((k:Int)<(l.length:Int))=false] (oN sO) ?_
  exact zr
theorem hget_ok (l:List FT) (n:List UInt8) (hl:l.length<4611686018427387904):Pur Tryz.prog G 150 [.c (encH l),.c (.str n)] [.c (.str ((fGet l n).getD [])),.c (.bool (fGet l n).isSome)]:=by
 refine zp Tryz.func150 ?_
 have c:=qget_ok (G:=G) l n hl
 refine z0 [(1,{cs:=[(2,pc c)]})] [] ?_
 exact zr
end Go.Proofs.Tw
end
section

end
section

end
section

end
section

end
section
open Go Go.Sv Go.RowKit
namespace Go.Proofs.Tw
attribute [local irreducible] Wp FinQ resV Ent Pur Go.Sv.Fn Sat0
set_option maxRecDepth 100000
set_option maxHeartbeats 4000000
variable {G:Nat→Option (List Cell)}
theorem usplit_ok {m:Int} (s:List UInt8) (hl:s.length<1000000000):Pur Tryz.prog (Gq m) 149 [.c (.str s)] [.c (.str (splitU s).1),.c (encH (splitU s).2.1),.c (.int .i64 (splitU s).2.2)]:=by
 refine zp Tryz.func149 ?_
 have hnil:EqvD (.c .nilsl) (.c (encH [])):=nil_eqv _ _
 have hc:=cut_len s [63]
 have c1:=lib_Cut (G:=Gq m) (m:=m) rfl s [63] oM
 have c2:=pathed_ok (G:=Gq m) [] (Lib.cut s [63]).1 oM
 have c3:=qparse_ok (m:=m) (Lib.cut s [63]).2.1 oM
 unfold splitU splitB
 generalize Lib.cut s [63]=C at *
 by_cases h1:s.length>1024
 ·rw [if_pos h1]
  have ht:decide ((s.length:Int)>1024)=true:=by simp;omega
  refine zg [(2,{fm:=[(1,.c (encH []))]})] [true] [decide ((s.length:Int)>1024)=true,EqvI (.c .nilsl) (.c (encH [])),EqvD (.c .nilsl) (.c (encH []))] ⟨aS,fun _ _=>trivial,(show EqvD (.c .nilsl) (.c (encH [])) from aS)⟩ ?_
  exact zr
 rw [if_neg h1]
 have ht:decide ((s.length:Int)>1024)=false:=by simp;omega
 cases hb:(bif !pathT C.1 then true else bif C.2.2 then C.2.1==[] else false) with
 | true =>
  rw [if_pos rfl]
  refine zg [(5,{fm:=[(1,.c (encH []))]}),(3,{cs:=[(1,pc c1)]}),(4,{cs:=[(2,pc c2)]})] [false,true] [decide ((s.length:Int)>1024)=false,(bif !pathT C.1 then true else bif C.2.snd then C.2.fst==[] else false)=true,EqvI (.c .nilsl) (.c (encH [])),EqvD (.c .nilsl) (.c (encH []))] ⟨aS,aS,fun _ _=>trivial,(show EqvD (.c .nilsl) (.c (encH [])) from aS)⟩ ?_
  exact zr
 | false =>
  rw [if_neg dC]
  by_cases h2:(parseF C.2.1).2=0
  ·rw [if_pos h2]
   rw [h2] at c3
   refine zg [(3,{cs:=[(1,pc c1)]}),(4,{cs:=[(2,pc c2)]}),(6,{cs:=[(1,pc c3)]})] [false,false,false] [decide ((s.length:Int)>1024)=false,(bif !pathT C.1 then true else bif C.2.snd then C.2.fst==[] else false)=false,((0:Int) != (0:Int))=false] ⟨aS,aS,rfl⟩ ?_
   exact zr
  ·rw [if_neg h2]
   have ht2:((parseF C.2.1).2 != 0)=true:=bne_iff_ne.2 h2
   generalize (parseF C.2.1).2=e at *
   clear h2
   refine zg [(8,{fm:=[(2,.c (encH []))]}),(3,{cs:=[(1,pc c1)]}),(4,{cs:=[(2,pc c2)]}),(6,{cs:=[(1,pc c3)]})] [false,false,true] [decide ((s.length:Int)>1024)=false,(bif !pathT C.1 then true else bif C.2.snd then C.2.fst==[] else false)=false,(e != (0:Int))=true,EqvI (.c .nilsl) (.c (encH [])),EqvD (.c .nilsl) (.c (encH []))] ⟨aS,aS,aS,fun _ _=>trivial,(show EqvD (.c .nilsl) (.c (encH [])) from aS)⟩ ?_
   exact zr
end Go.Proofs.Tw
end
section
open Go Go.Sv Go.RowKit
namespace Go.Proofs.Tw
attribute [local irreducible] Wp FinQ resV Ent Pur Go.Sv.Fn Sat0
set_option maxRecDepth 100000
set_option maxHeartbeats 4000000
variable {G:Nat→Option (List Cell)} [Back G]
theorem pnext_ok (hE:HasErr G) (hp:HasPow G) (s:List UInt8) (q:Nat) (hl:s.length≤1000000000) (hq:q≤s.length):FnB Tryz.prog G 139 [pjB s q] [.c (.ptr 0 0)] [.c (.cl (wdC (nxW s q).1))] [(0,pjB s (nxW s q).2)]:=by
 refine zf Tryz.func139 ?_
 have cBl:=pblanks_ok (G:=G) s q hl hq
 have hQ:=skP_len s q hq
 unfold nxW jwA
 generalize skP s q=Q at *
 by_cases h0:s.length≤Q
 ·rw [if_pos h0]
  have ht:decide ((Q:Int)≥(s.length:Int))=true:=decide_eq_true oM
  have n1:=wd_in .no
  refine zg [(3,{fm:=[(0,.c (.cl (wdC .no)))]}),(1,{cs:=[(1,cb [0] cBl)]})] [true] [decide ((Q:Int)≥(s.length:Int))=true,EqvI (.c .nilif) (.c (wdC JWd.no).cl),EqvD (.c .nilif) (.c (wdC JWd.no).cl)] ⟨aS,fun _ _=>trivial,(show EqvD (.c .nilif) (.c (wdC JWd.no).cl) from aS)⟩ ?_
  exact zb []
 rw [if_neg h0]
 have ht:decide ((Q:Int)≥(s.length:Int))=false:=decide_eq_false oM
 have hlt:Q<s.length:=by omega
 have c0:=lib_IndexByte (G:=G) [91,93,123,125,44,58] (s.getD Q 0)
 have hI:=ix_mark (s.getD Q 0)
 generalize Lib.indexByte [91,93,123,125,44,58] (s.getD Q 0)=I at *
 by_cases hm:jwK (s.getD Q 0)=true
 ·rw [if_pos hm]
  rw [hm] at hI
  have n1:=wd_in (.mk (s.getD Q 0))
  clear hm
  refine zg [(7,{fm:=[(1,.c (.cl (wdC (.mk (s.getD Q 0)))))]}),(1,{cs:=[(1,cb [0] cBl)]}),(5,{cs:=[(1,pc c0)]})] [false,true] [decide ((Q:Int)≥(s.length:Int))=false,(0:Int)≤(Q:Int)∧(Q:Int)<(s.length:Int),decide (I≥(0:Int))=true,inR .i64 ((Q:Int)+1),EqvI (.c (.ifc 217 none fun (x:Nat) => .int .u8 (↑(s.getD Q (0:UInt8)).toNat:Int))) (.c (wdC (JWd.mk (s.getD Q (0:UInt8)))).cl),EqvD (.c (.ifc 217 none fun (x:Nat) => .int .u8 (↑(s.getD Q (0:UInt8)).toNat:Int))) (.c (wdC (JWd.mk (s.getD Q (0:UInt8)))).cl)] ⟨aS,oM,aS,i6,fun _ _=>trivial,(show EqvD (.c (.ifc 217 none fun (x:Nat) => .int .u8 (↑(s.getD Q (0:UInt8)).toNat:Int))) (.c (wdC (JWd.mk (s.getD Q (0:UInt8)))).cl) from aS)⟩ ?_
  exact zb []
 rw [if_neg hm]
 rw [show jwK (s.getD Q 0)=false by simpa using hm] at hI
 clear hm
 have hc1:(((s.getD Q 0).toNat:Int)==34)=(s.getD Q 0==34):=ibeq _ 34
 by_cases h34:s.getD Q 0=34
 ·rw [if_pos h34]
  rw [beq_iff_eq.2 h34] at hc1
  have c1:=ptext_ok (G:=G) s Q hl hlt
  clear h34
  generalize jwT s Q=R at *
  refine zg [(1,{cs:=[(1,cb [0] cBl)]}),(5,{cs:=[(1,pc c0)]}),(10,{cs:=[(1,cb [0] c1)]})] [false,false,true] [decide ((Q:Int)≥(s.length:Int))=false,(0:Int)≤(Q:Int)∧(Q:Int)<(s.length:Int),decide (I≥(0:Int))=false,((↑(s.getD Q (0:UInt8)).toNat:Int)==(34:Int))=true,inR .i64 ((Q:Int)+1)] ⟨aS,oM,aS,aS,i6⟩ ?_
  exact zb []
 rw [if_neg h34]
 rw [beq_eq_false_iff_ne.2 h34] at hc1
 clear h34
 by_cases hn:s.getD Q 0=45∨digitB (s.getD Q 0)=true
 ·rw [if_pos hn]
  have hB:(bif ((s.getD Q 0).toNat:Int)==45 then true else bif decide (((s.getD Q 0).toNat:Int)≥48) then decide (((s.getD Q 0).toNat:Int)≤57) else false)=true:=by
   have:=byte_all (fun c=>(!((c==45)||digitB c))||(bif (c.toNat:Int)==45 then true else bif decide ((c.toNat:Int)≥48) then decide ((c.toNat:Int)≤57) else false)) kR (s.getD Q 0)
   have hh:(s.getD Q 0==45||digitB (s.getD Q 0))=true:=by rcases hn with h | h<;>rw [h]<;>simp
   rw [hh] at this
   exact this
  have c1:=pnumber_ok hE hp s Q hl hlt hn
  clear hn
  generalize jwM s Q=R at *
  refine zg [(1,{cs:=[(1,cb [0] cBl)]}),(5,{cs:=[(1,pc c0)]}),(12,{cs:=[(1,cb [0] c1)]})] [false,false,false,true] [decide ((Q:Int)≥(s.length:Int))=false,(0:Int)≤(Q:Int)∧(Q:Int)<(s.length:Int),decide (I≥(0:Int))=false,((↑(s.getD Q (0:UInt8)).toNat:Int)==(34:Int))=false,(bif (↑(s.getD Q (0:UInt8)).toNat:Int)==(45:Int) then true else bif decide ((↑(s.getD Q (0:UInt8)).toNat:Int)≥(48:Int)) then decide ((↑(s.getD Q (0:UInt8)).toNat:Int)≤(57:Int)) else false)=true] ⟨aS,oM,aS,aS,(show (bif (↑(s.getD Q (0:UInt8)).toNat:Int)==(45:Int) then true else bif decide ((↑(s.getD Q (0:UInt8)).toNat:Int)≥(48:Int)) then decide ((↑(s.getD Q (0:UInt8)).toNat:Int)≤(57:Int)) else false)=true from aS)⟩ ?_
  exact zb []
 ·rw [if_neg hn]
  have hB:(bif ((s.getD Q 0).toNat:Int)==45 then true else bif decide (((s.getD Q 0).toNat:Int)≥48) then decide (((s.getD Q 0).toNat:Int)≤57) else false)=false:=by
   have:=byte_all (fun c=>((c==45)||digitB c) || !(bif (c.toNat:Int)==45 then true else bif decide ((c.toNat:Int)≥48) then decide ((c.toNat:Int)≤57) else false)) kR (s.getD Q 0)
   have hh:(s.getD Q 0==45||digitB (s.getD Q 0))=false:=by
    cases hh:(s.getD Q 0==45||digitB (s.getD Q 0)) with
    | false=>rfl
    | true=>simp only [Bool.or_eq_true,beq_iff_eq] at hh; exact absurd hh hn
   rw [hh,Bool.false_or] at this
   exact Bool.not_eq_true' _ |>.mp this
  have c1:=pnamed_ok (G:=G) s Q hl hQ
  clear hn
  generalize jwN s Q=R at *
  refine zg [(1,{cs:=[(1,cb [0] cBl)]}),(5,{cs:=[(1,pc c0)]}),(13,{cs:=[(1,cb [0] c1)]})] [false,false,false,false] [decide ((Q:Int)≥(s.length:Int))=false,(0:Int)≤(Q:Int)∧(Q:Int)<(s.length:Int),decide (I≥(0:Int))=false,((↑(s.getD Q (0:UInt8)).toNat:Int)==(34:Int))=false,(bif (↑(s.getD Q (0:UInt8)).toNat:Int)==(45:Int) then true else bif decide ((↑(s.getD Q (0:UInt8)).toNat:Int)≥(48:Int)) then decide ((↑(s.getD Q (0:UInt8)).toNat:Int)≤(57:Int)) else false)=false] ⟨aS,oM,aS,aS,(show (bif (↑(s.getD Q (0:UInt8)).toNat:Int)==(45:Int) then true else bif decide ((↑(s.getD Q (0:UInt8)).toNat:Int)≥(48:Int)) then decide ((↑(s.getD Q (0:UInt8)).toNat:Int)≤(57:Int)) else false)=false from aS)⟩ ?_
  exact zb []
theorem pv_no (s:List UInt8) (q:Nat) (d:Int):FnB Tryz.prog G 138 [pjB s q] [.c (.ptr 0 0),.c (.cl (wdC .no)),.c (.int .i64 d)] [.agg (encJ .nil),.c (.int .i64 3)] [(0,pjB s q)]:=by
 refine zf Tryz.func138 ?_
 have e1:=wd_out .no
 have e2:=wd_outI .no
 have n0:=nilJ_den'
 refine zg [(1,{fm:=[(0,.c (wdC .no))]}),(7,{fm:=[(0,.agg (encJ .nil))]})] [true] [EqvI (.c (wdC JWd.no).cl) (.c (wdC JWd.no)),EqvD (.c (wdC JWd.no).cl) (.c (wdC JWd.no)),true=true,EqvI (.agg [.int .i64 0,.bool false,.int .i64 0,.str [],.nilsl,.nilsl]) (.agg (encJ JV.nil)),EqvD (.agg [.int .i64 0,.bool false,.int .i64 0,.str [],.nilsl,.nilsl]) (.agg (encJ JV.nil))] ⟨fun _ _=>trivial,aS,rfl,eqvI_flat _ _ kR,(show EqvD (.agg [.int .i64 (0:Int),.bool false,.int .i64 (0:Int),.str [],.nilsl,.nilsl]) (.agg (encJ JV.nil)) from aS)⟩ ?_
 exact zb []
theorem pv_ph (s:List UInt8) (q:Nat) (d:Int) (t:List UInt8):FnB Tryz.prog G 138 [pjB s q] [.c (.ptr 0 0),.c (.cl (wdC (.ph t))),.c (.int .i64 d)] [.agg (encJ (.mk 4 false 0 t [] [])),.c (.int .i64 0)] [(0,pjB s q)]:=by
 refine zf Tryz.func138 ?_
 have e1:=wd_out (.ph t)
 have e2:=wd_outI (.ph t)
 have c:=pphr_ok (G:=G) t
 refine zg [(1,{fm:=[(0,.c (wdC (.ph t)))]}),(3,{cs:=[(1,pc c)]})] [false,false] [EqvI (.c (wdC (JWd.ph t)).cl) (.c (wdC (JWd.ph t))),EqvD (.c (wdC (JWd.ph t)).cl) (.c (wdC (JWd.ph t))),false=false,false=false] ⟨fun _ _=>trivial,aS,rfl,rfl⟩ ?_
 exact zb []
theorem pv_nu (s:List UInt8) (q:Nat) (d:Int) (n:Int):FnB Tryz.prog G 138 [pjB s q] [.c (.ptr 0 0),.c (.cl (wdC (.nu n))),.c (.int .i64 d)] [.agg (encJ (.mk 3 false n [] [] [])),.c (.int .i64 0)] [(0,pjB s q)]:=by
 refine zf Tryz.func138 ?_
 have e1:=wd_out (.nu n)
 have e2:=wd_outI (.nu n)
 have c:=pnum_ok (G:=G) n
 refine zg [(1,{fm:=[(0,.c (wdC (.nu n)))]}),(3,{cs:=[(1,pc c)]})] [false,false] [EqvI (.c (wdC (JWd.nu n)).cl) (.c (wdC (JWd.nu n))),EqvD (.c (wdC (JWd.nu n)).cl) (.c (wdC (JWd.nu n))),false=false,false=false] ⟨fun _ _=>trivial,aS,rfl,rfl⟩ ?_
 exact zb []
theorem pv_va (s:List UInt8) (q:Nat) (d:Int) (v:JV):FnB Tryz.prog G 138 [pjB s q] [.c (.ptr 0 0),.c (.cl (wdC (.va v))),.c (.int .i64 d)] [.agg (encJ v),.c (.int .i64 0)] [(0,pjB s q)]:=by
 refine zf Tryz.func138 ?_
 have e1:=wd_out (.va v)
 have e2:=wd_outI (.va v)
 have c:=pval_ok (G:=G) v
 refine zg [(1,{fm:=[(0,.c (wdC (.va v)))]}),(3,{cs:=[(1,pc c)]})] [false,false] [EqvI (.c (wdC (JWd.va v)).cl) (.c (wdC (JWd.va v))),EqvD (.c (wdC (JWd.va v)).cl) (.c (wdC (JWd.va v))),false=false,false=false] ⟨aS,aS,rfl,rfl⟩ ?_
 exact zb []
theorem pv_bad (s:List UInt8) (q:Nat) (d:Int) (c:UInt8) (h1:c≠91) (h2:c≠123):FnB Tryz.prog G 138 [pjB s q] [.c (.ptr 0 0),.c (.cl (wdC (.mk c))),.c (.int .i64 d)] [.agg (encJ .nil),.c (.int .i64 3)] [(0,pjB s q)]:=by
 refine zf Tryz.func138 ?_
 have e1:=wd_out (.mk c)
 have e2:=wd_outI (.mk c)
 have n0:=nilJ_den'
 have k1:((c.toNat:Int)==91)=false:=(ibeq c 91).trans (beq_eq_false_iff_ne.2 h1)
 have k2:((c.toNat:Int)==123)=false:=(ibeq c 123).trans (beq_eq_false_iff_ne.2 h2)
 have hB:(bif (c.toNat:Int) != 91 then (c.toNat:Int) != 123 else false)=true:=by unfold bne;rw [k1,k2];rfl
 clear h1 h2
 refine zg [(1,{fm:=[(0,.c (wdC (.mk c)))]}),(11,{fm:=[(0,.agg (encJ .nil))]})] [false,true,true] [EqvI (.c (wdC (JWd.mk c)).cl) (.c (wdC (JWd.mk c))),EqvD (.c (wdC (JWd.mk c)).cl) (.c (wdC (JWd.mk c))),false=false,true=true,(bif (c.toNat:Int) != (91:Int) then (c.toNat:Int) != (123:Int) else false)=true,EqvI (.agg [.int .i64 0,.bool false,.int .i64 0,.str [],.nilsl,.nilsl]) (.agg (encJ JV.nil)),EqvD (.agg [.int .i64 0,.bool false,.int .i64 0,.str [],.nilsl,.nilsl]) (.agg (encJ JV.nil))] ⟨fun _ _=>trivial,aS,rfl,rfl,aS,eqvI_flat _ _ kR,(show EqvD (.agg [.int .i64 (0:Int),.bool false,.int .i64 (0:Int),.str [],.nilsl,.nilsl]) (.agg (encJ JV.nil)) from aS)⟩ ?_
 exact zb []
theorem pv_deep (s:List UInt8) (q:Nat) (c:UInt8) (h:c=91∨c=123):FnB Tryz.prog G 138 [pjB s q] [.c (.ptr 0 0),.c (.cl (wdC (.mk c))),.c (.int .i64 8)] [.agg (encJ .nil),.c (.int .i64 4)] [(0,pjB s q)]:=by
 refine zf Tryz.func138 ?_
 have e1:=wd_out (.mk c)
 have e2:=wd_outI (.mk c)
 have n0:=nilJ_den'
 have hB:(bif (c.toNat:Int) != 91 then (c.toNat:Int) != 123 else false)=false:=by rcases h with rfl | rfl<;>rfl
 clear h
 refine zg [(1,{fm:=[(0,.c (wdC (.mk c)))]}),(13,{fm:=[(0,.agg (encJ .nil))]})] [false,true,false,true] [EqvI (.c (wdC (JWd.mk c)).cl) (.c (wdC (JWd.mk c))),EqvD (.c (wdC (JWd.mk c)).cl) (.c (wdC (JWd.mk c))),false=false,true=true,(bif (c.toNat:Int) != (91:Int) then (c.toNat:Int) != (123:Int) else false)=false,decide ((8:Int)≥(8:Int))=true,EqvI (.agg [.int .i64 0,.bool false,.int .i64 0,.str [],.nilsl,.nilsl]) (.agg (encJ JV.nil)),EqvD (.agg [.int .i64 0,.bool false,.int .i64 0,.str [],.nilsl,.nilsl]) (.agg (encJ JV.nil))] ⟨fun _ _=>trivial,aS,rfl,rfl,aS,rfl,eqvI_flat _ _ kR,(show EqvD (.agg [.int .i64 (0:Int),.bool false,.int .i64 (0:Int),.str [],.nilsl,.nilsl]) (.agg (encJ JV.nil)) from aS)⟩ ?_
 exact zb []
theorem pv_list (s:List UInt8) (q:Nat) (d:Int) (hd:d<8) (hd0:0≤d) (v:JV) (q':Nat) (e:Int) (c:FnB Tryz.prog G 186 [pjB s q] [.c (.ptr 0 0),.c (.int .i64 (d+1))] [.agg (encJ v),.c (.int .i64 e)] [(0,pjB s q')]) :
  FnB Tryz.prog G 138 [pjB s q] [.c (.ptr 0 0),.c (.cl (wdC (.mk 91))),.c (.int .i64 d)] [.agg (encJ v),.c (.int .i64 e)] [(0,pjB s q')]:=by
 refine zf Tryz.func138 ?_
 have e1:=wd_out (.mk 91)
 have e2:=wd_outI (.mk 91)
 refine zg [(1,{fm:=[(0,.c (wdC (.mk 91)))]}),(15,{cs:=[(3,cb [0] c)]})] [false,true,false,false,true] [EqvI (.c (wdC (JWd.mk (91:UInt8))).cl) (.c (wdC (JWd.mk (91:UInt8)))),EqvD (.c (wdC (JWd.mk (91:UInt8))).cl) (.c (wdC (JWd.mk (91:UInt8)))),false=false,true=true,(bif (↑(UInt8.toNat (91:UInt8)):Int) != (91:Int) then (↑(UInt8.toNat (91:UInt8)):Int) != (123:Int) else false)=false,decide (d≥(8:Int))=false,((↑(UInt8.toNat (91:UInt8)):Int)==(91:Int))=true,inR .i64 (d+1)] ⟨fun _ _=>trivial,aS,rfl,rfl,rfl,sO,rfl,i6⟩ ?_
 exact zb []
theorem pv_obj (s:List UInt8) (q:Nat) (d:Int) (hd:d<8) (hd0:0≤d) (v:JV) (q':Nat) (e:Int) (c:FnB Tryz.prog G 187 [pjB s q] [.c (.ptr 0 0),.c (.int .i64 (d+1))] [.agg (encJ v),.c (.int .i64 e)] [(0,pjB s q')]) :
  FnB Tryz.prog G 138 [pjB s q] [.c (.ptr 0 0),.c (.cl (wdC (.mk 123))),.c (.int .i64 d)] [.agg (encJ v),.c (.int .i64 e)] [(0,pjB s q')]:=by
 refine zf Tryz.func138 ?_
 have e1:=wd_out (.mk 123)
 have e2:=wd_outI (.mk 123)
 refine zg [(1,{fm:=[(0,.c (wdC (.mk 123)))]}),(16,{cs:=[(3,cb [0] c)]})] [false,true,false,false,false] [EqvI (.c (wdC (JWd.mk (123:UInt8))).cl) (.c (wdC (JWd.mk (123:UInt8)))),EqvD (.c (wdC (JWd.mk (123:UInt8))).cl) (.c (wdC (JWd.mk (123:UInt8)))),false=false,true=true,(bif (↑(UInt8.toNat (123:UInt8)):Int) != (91:Int) then (↑(UInt8.toNat (123:UInt8)):Int) != (123:Int) else false)=false,decide (d≥(8:Int))=false,((↑(UInt8.toNat (123:UInt8)):Int)==(91:Int))=false,inR .i64 (d+1)] ⟨fun _ _=>trivial,aS,rfl,rfl,rfl,sO,rfl,i6⟩ ?_
 exact zb []
theorem Wp.join {P:Program} {N kn:Nat} {k k':List KI} {Q:St→Prop} {st st':St} (hw:Wp P G N kn k' Q st') (he:Ent kn st st') (hk:k=k':=by kernel_rfl) (hc:isCode k'=true:=by kernel_rfl):Wp P G N kn k Q st:=by
 subst hk
 exact Wp.ent' hc he hw
def tailN:Nat→Code→Code
 | n+1,.seq _ b=>tailN n b
 | _,c=>c
def loopAt (P:Program) (G:Nat→Option (List Cell)) (f:Func) (n:Nat):List KI:=aK (adv P G f.ntmps true [] 100 [] [KI.code (tailN n (codeOf f))] ⟨[],[],0⟩)
theorem jlist_D (k:Int):EqvD (.agg [.int .i64 k,.bool false,.int .i64 0,.str [],.nilsl,.nilsl]) (.agg [.int .i64 k,.bool false,.int .i64 0,.str [],encS [],.nilsl]):=agg_eqv (.cons CEq.rfl' (.cons CEq.rfl' (.cons CEq.rfl' (.cons CEq.rfl' (.cons CEq.nil (.cons CEq.rfl' .nil))))))
theorem jlist_D2 (k:Int):EqvD (.agg [.int .i64 k,.bool false,.int .i64 0,.str [],encS [],.nilsl]) (.agg (encJ (.mk k false 0 [] [] []))):=agg_eqv (.cons CEq.rfl' (.cons CEq.rfl' (.cons CEq.rfl' (.cons CEq.rfl' (.cons CEq.rfl' (.cons CEq.nil .nil))))))
structure ListF (s:List UInt8) (F:JWd→Nat→JV×Nat×Int) (R:JV×Nat×Int) (x:Nat×Nat×Nat×List JV):Prop where
 p:x.2.1≤s.length
 m:x.2.2.1=x.2.2.2.length
 mp:x.2.2.1≤x.2.1
 r:listW s F x.1 (nxW s x.2.1).1 (nxW s x.2.1).2 x.2.2.2=R
 n:s.length<x.2.1+x.1
theorem pl_loop (hE:HasErr G) (hp:HasPow G) (s:List UInt8) (hl:s.length≤1000000000) (d:Int) (F:JWd→Nat→JV×Nat×Int) (hA:∀ w q,q≤s.length→Adv s q (F w q).2.1)
  (ih:∀ w q,q≤s.length→FnB Tryz.prog G 138 [pjB s q] [.c (.ptr 0 0),.c (.cl (wdC w)),.c (.int .i64 d)] [.agg (encJ (F w q).1),.c (.int .i64 (F w q).2.2)] [(0,pjB s (F w q).2.1)])
  (p0 n p:Nat) (R:JV×Nat×Int) (hF:ListF s F R (n,p,0,[])) :
  Wp Tryz.prog G Tryz.f186.ntmps (len [pjB s p0]) (loopAt Tryz.prog G Tryz.f186 5) (FinQ Tryz.prog Tryz.f186.results.toList (len [pjB s p0]) (fun r h=>r=[.agg (encJ R.1),.c (.int .i64 R.2.2)]∧h=[(0,pjB s R.2.1)]))
   ⟨[(0,.v (.c (.ptr 0 0))),(1,.v (.c (.int .i64 d))),(4,.v (.c (.ptr 1 0))),(6,.v (.c (.ptr 49 0))),(7,.v (.c (.cl (wdC (nxW s p).1))))],[(1,.box 53 [.int .i64 0,.bool false,.int .i64 0,.str [],.nilsl,.nilsl]),(49,.box 53 [.int .i64 5,.bool false,.int .i64 0,.str [],encS [],.nilsl]),(0,pjB s (nxW s p).2)],177⟩:=by
 refine Wp.loopK kR (fun (x:Nat×Nat×Nat×List JV)=>⟨[(0,.v (.c (.ptr 0 0))),(1,.v (.c (.int .i64 d))),(4,.v (.c (.ptr 1 0))),(6,.v (.c (.ptr 49 0))),(7,.v (.c (.cl (wdC (nxW s x.2.1).1))))],[(1,.box 53 [.int .i64 0,.bool false,.int .i64 0,.str [],.nilsl,.nilsl]),(49,.box 53 [.int .i64 5,.bool false,.int .i64 0,.str [],encS [],.row 6 177 0 x.2.2.1]),(0,pjB s (nxW s x.2.1).2),(177,.row 53 6 x.2.2.1 (rowF encJ .nil x.2.2.2))],193⟩)
  (ListF s F R) (fun x=>x.1) (n,p,0,[])
  (Ent.trans (Ent.empC (b:=49) (o:=5) (sz:=6) (e:=53) (e':=53) (cs:=[.int .i64 5,.bool false,.int .i64 0,.str [],encS [],.nilsl]) (f:=rowF encJ .nil []) dC (of_decide_eq_true kR) kR kR rfl) (Ent.of [] kR kR kR trivial)) hF ?_
 clear hF
 rintro ⟨n,p,m,ks⟩ L ⟨hp1,hm,hmp,hR,hn⟩ again
 simp only at hp1 hm hmp hR hn
 rcases n with _ | n
 ·omega
 have hq:=(nxW_adv s p hp1).2
 have cv:=ih (nxW s p).1 _ hq
 have ha:=(hA (nxW s p).1 _ hq)
 have hpa:=(nxW_adv s p hp1).1
 rw [listW] at hR
 generalize (nxW s p).2=q at *
 generalize (nxW s p).1=w at *
 generalize F w q=y at *
 obtain ⟨v,q1,e⟩:=y
 simp only at hR cv ha
 by_cases h0:e=0
 ·subst h0
  rw [if_pos rfl] at hR
  have c2:=pnext_ok hE hp s q1 hl ha.2
  have c3:=ends_ok (G:=G) (nxW s q1).1 93 kR
  have hx:=nxW_adv s q1 ha.2
  have hk44:=isMk_pos s q1 44 rfl
  have e1:BlkEqv (.row 53 6 (m+1) (catF m (rowF encJ .nil ks) (fun i j=>nthD (encJ v) ((0+i)*6+j)))) (.row 53 6 (m+1) (rowF encJ .nil (ks++[v]))):=enc_app ks v hm
  have hm2:m+1=(ks++[v]).length:=by simp [hm]
  generalize hX:nxW s q1=X at *
  obtain ⟨w2,q2⟩:=X
  simp only at hR c2 c3 hx hk44
  have hkp:=kid_pub (ks++[v]) hm2
  cases h93:isMk 93 w2 with
  | true =>
   rw [h93,if_pos rfl] at hR
   rw [h93] at c3
   subst hR
   clear again hk44
   refine zg [(8,{bs:=[(4,.row 53 6 (m+1) (rowF encJ .nil (ks++[v])))]}),(5,{cs:=[(3,cb [0] cv)]}),(9,{cs:=[(1,cb [0] c2),(2,pc c3)]})] [false,false,true] [((0:Int) != (0:Int))=false,(m+1)*88≤140737488355328,BlkEqv (.row 53 6 (m+1) (catF m (fun i j=>nthD (encJ (ks.getD i .nil)) j) fun i j=>nthD [.int .i64 v.kind,.bool v.b,.int .i64 v.n,.str v.s,.sl 1 v.names.length fun i j=>nthD [.str (v.names.getD i [])] j,.sl 6 v.kids.length (kidC v.kids)] ((0+i)*6+j))) (.row 53 6 (m+1) (rowF encJ JV.nil (ks++[v]))),m≤m,0+1≤1,(!(true||isMk (44:UInt8) w2))=false,true=true] ⟨rfl,oM,aS,oM,oM,rfl,rfl⟩ ?_
   refine Wp.ent' kR (Ent.pubC (b:=1) (o:=5) (e:=53) (e':=53) (cs:=[Cell.int .i64 (5:Int),Cell.bool false,Cell.int .i64 (0:Int),Cell.str [],Cell.sl (1:Nat) ([]:List UInt8).length fun (i j:Nat)=>nthD [Cell.str ([].getD i [])] j,Cell.row (6:Nat) (449:Nat) (0:Nat) (m+(1:Nat))]) (sz:=(6:Nat)) (id:=449) (off:=(0:Nat)) (m:=m+(1:Nat)) (n:=m+(1:Nat)) (f:=rowF encJ JV.nil (ks++[v])) (m':=(JV.mk (5:Int) false (0:Int) [] [] (ks++[v])).kids.length) (f':=kidC (JV.mk (5:Int) false (0:Int) [] [] (ks++[v])).kids) kR kR kR oM aS (kid_pub _ aS) rfl) ?_
   exact zb []
  | false =>
   rw [h93,if_neg dC] at hR
   rw [h93] at c3
   cases h44:isMk 44 w2 with
   | true =>
    rw [h44,if_pos rfl] at hR
    rw [h44] at c3
    obtain ⟨g1,g2⟩:=hk44 h44
    have hsk:=skP_le s q1
    have ha1:q≤q1:=ha.1
    have c4:=pnext_ok hE hp s q2 hl hx.2
    have hF:ListF s F R (n,q2,m+1,ks++[v]):=⟨hx.2,hm2,by show m+1≤q2;omega,hR,by show s.length<q2+n;omega⟩
    clear hR hk44 hkp
    refine zg [(8,{bs:=[(4,.row 53 6 (m+1) (rowF encJ .nil (ks++[v])))]}),(5,{cs:=[(3,cb [0] cv)]}),(9,{cs:=[(1,cb [0] c2),(2,pc c3)]}),(14,{cs:=[(1,cb [0] c4)]})] [false,false,false] [((0:Int) != (0:Int))=false,(m+1)*88≤140737488355328,BlkEqv (.row 53 6 (m+1) (catF m (fun i j=>nthD (encJ (ks.getD i .nil)) j) fun i j=>nthD [.int .i64 v.kind,.bool v.b,.int .i64 v.n,.str v.s,.sl 1 v.names.length fun i j=>nthD [.str (v.names.getD i [])] j,.sl 6 v.kids.length (kidC v.kids)] ((0+i)*6+j))) (.row 53 6 (m+1) (rowF encJ JV.nil (ks++[v]))),m≤m,0+1≤1,(!(false||true))=false,false=false] ⟨rfl,oM,aS,oM,oM,rfl,rfl⟩ ?_
    exact za [(177,449)] (again _ (n,q2,m+1,ks++[v]) aS oM)
   | false =>
    rw [h44,if_neg dC] at hR
    rw [h44] at c3
    subst hR
    clear again hk44
    refine zg [(8,{bs:=[(4,.row 53 6 (m+1) (rowF encJ .nil (ks++[v])))]}),(5,{cs:=[(3,cb [0] cv)]}),(9,{cs:=[(1,cb [0] c2),(2,pc c3)]})] [false,true] [((0:Int) != (0:Int))=false,(m+1)*88≤140737488355328,BlkEqv (.row 53 6 (m+1) (catF m (fun i j=>nthD (encJ (ks.getD i .nil)) j) fun i j=>nthD [.int .i64 v.kind,.bool v.b,.int .i64 v.n,.str v.s,.sl 1 v.names.length fun i j=>nthD [.str (v.names.getD i [])] j,.sl 6 v.kids.length (kidC v.kids)] ((0+i)*6+j))) (.row 53 6 (m+1) (rowF encJ JV.nil (ks++[v]))),m≤m,0+1≤1,(!(false||false))=true] ⟨rfl,oM,aS,oM,oM,rfl⟩ ?_
    refine Wp.ent' kR (Ent.pubC (b:=1) (o:=5) (e:=53) (e':=53) (cs:=[Cell.int .i64 (5:Int),Cell.bool false,Cell.int .i64 (0:Int),Cell.str [],Cell.sl (1:Nat) ([]:List UInt8).length fun (i j:Nat)=>nthD [Cell.str ([].getD i [])] j,Cell.row (6:Nat) (449:Nat) (0:Nat) (m+(1:Nat))]) (sz:=(6:Nat)) (id:=449) (off:=(0:Nat)) (m:=m+(1:Nat)) (n:=m+(1:Nat)) (f:=rowF encJ JV.nil (ks++[v])) (m':=(JV.mk (5:Int) false (0:Int) [] [] (ks++[v])).kids.length) (f':=kidC (JV.mk (5:Int) false (0:Int) [] [] (ks++[v])).kids) kR kR kR oM aS (kid_pub _ aS) rfl) ?_
    exact zb []
 ·rw [if_neg h0] at hR
  subst hR
  have hne:(e != 0)=true:=by simpa using h0
  have hkp:=kid_pub ks hm
  clear again h0
  refine zg [(5,{cs:=[(3,cb [0] cv)]})] [true] [(e != (0:Int))=true] (oN aS) ?_
  refine Wp.ent' kR (Ent.pubC (b:=1) (o:=5) (e:=53) (e':=53) (cs:=[Cell.int .i64 (5:Int),Cell.bool false,Cell.int .i64 (0:Int),Cell.str [],Cell.sl (1:Nat) ([]:List UInt8).length fun (i j:Nat)=>nthD [Cell.str ([].getD i [])] j,Cell.row (6:Nat) (177:Nat) (0:Nat) m]) (sz:=(6:Nat)) (id:=177) (off:=(0:Nat)) (m:=m) (n:=m) (f:=fun (i j:Nat)=>nthD [Cell.int .i64 (ks.getD i JV.nil).kind,Cell.bool (ks.getD i JV.nil).b,Cell.int .i64 (ks.getD i JV.nil).n,Cell.str (ks.getD i JV.nil).s,encS (ks.getD i JV.nil).names,Cell.sl (6:Nat) (ks.getD i JV.nil).kids.length (kidC (ks.getD i JV.nil).kids)] j) (m':=(JV.mk (5:Int) false (0:Int) [] [] ks).kids.length) (f':=kidC (JV.mk (5:Int) false (0:Int) [] [] ks).kids) kR kR kR oM aS (kid_pub _ aS) rfl) ?_
  exact zb []
theorem plist_ok (hE:HasErr G) (hp:HasPow G) (s:List UInt8) (hl:s.length≤1000000000) (d:Int) (F:JWd→Nat→JV×Nat×Int) (hA:∀ w q,q≤s.length→Adv s q (F w q).2.1)
  (ih:∀ w q,q≤s.length→FnB Tryz.prog G 138 [pjB s q] [.c (.ptr 0 0),.c (.cl (wdC w)),.c (.int .i64 d)] [.agg (encJ (F w q).1),.c (.int .i64 (F w q).2.2)] [(0,pjB s (F w q).2.1)]) (q:Nat) (hq:q≤s.length) :
  FnB Tryz.prog G 186 [pjB s q] [.c (.ptr 0 0),.c (.int .i64 d)] [.agg (encJ (listS s F q).1),.c (.int .i64 (listS s F q).2.2)] [(0,pjB s (listS s F q).2.1)]:=by
 refine zf Tryz.func186 ?_
 have c1:=pnext_ok hE hp s q hl hq
 have J:=pl_loop hE hp s hl d F hA ih q (s.length+1) q (listW s F (s.length+1) (nxW s q).1 (nxW s q).2 []) ⟨hq,rfl,Nat.zero_le _,rfl,by show s.length<q+(s.length+1);omega⟩
 unfold listS
 generalize nxW s q=X at *
 obtain ⟨w,q'⟩:=X
 simp only at c1 J ⊢
 cases w with
 | no =>
  rw [if_neg (show ¬ isMk 93 .no=true from fun h=>by cases h)]
  have e1:=wd_out .no
  have e2:=wd_outI .no
  refine zg [(1,{fm:=[(0,.agg [.int .i64 5,.bool false,.int .i64 0,.str [],encS [],.nilsl])]}),(2,{cs:=[(1,cb [0] c1)]}),(3,{fm:=[(0,.c (wdC .no))]})] [false] [EqvI (.agg [.int .i64 5,.bool false,.int .i64 0,.str [],.nilsl,.nilsl]) (.agg [.int .i64 5,.bool false,.int .i64 0,.str [],encS [],.nilsl]),EqvD (.agg [.int .i64 5,.bool false,.int .i64 0,.str [],.nilsl,.nilsl]) (.agg [.int .i64 5,.bool false,.int .i64 0,.str [],encS [],.nilsl]),EqvI (.c (.cl (wdC .no))) (.c (wdC .no)),EqvD (.c (.cl (wdC .no))) (.c (wdC .no)),false=false] ⟨eqvI_flat _ _ kR,jlist_D 5,e2,e1,rfl⟩ ?_
  exact Wp.join J (Ent.of [] kR kR kR trivial)
 | mk c =>
  by_cases hc:c=93
  ·subst hc
   rw [if_pos (show isMk 93 (.mk 93)=true from rfl)]
   have e1:=wd_out (.mk 93)
   have e2:=wd_outI (.mk 93)
   have e3:=jlist_D 5
   have e4:=jlist_D2 5
   clear J
   refine zg [(1,{fm:=[(0,.agg [.int .i64 5,.bool false,.int .i64 0,.str [],encS [],.nilsl])]}),(3,{fm:=[(0,.c (wdC (.mk 93)))]}),(4,{fm:=[(0,.agg (encJ (.mk 5 false 0 [] [] [])))]}),(2,{cs:=[(1,cb [0] c1)]})] [true] [EqvI (.agg [.int .i64 5,.bool false,.int .i64 0,.str [],.nilsl,.nilsl]) (.agg [.int .i64 5,.bool false,.int .i64 0,.str [],encS [],.nilsl]),EqvD (.agg [.int .i64 5,.bool false,.int .i64 0,.str [],.nilsl,.nilsl]) (.agg [.int .i64 5,.bool false,.int .i64 0,.str [],encS [],.nilsl]),EqvI (.c (wdC (JWd.mk (93:UInt8))).cl) (.c (wdC (JWd.mk (93:UInt8)))),EqvD (.c (wdC (JWd.mk (93:UInt8))).cl) (.c (wdC (JWd.mk (93:UInt8)))),((↑(UInt8.toNat (93:UInt8)):Int)==(93:Int))=true,EqvI (.agg [.int .i64 5,.bool false,.int .i64 0,.str [],encS [],.nilsl]) (.agg (encJ (JV.mk (5:Int) false (0:Int) [] [] []))),EqvD (.agg [.int .i64 5,.bool false,.int .i64 0,.str [],encS [],.nilsl]) (.agg (encJ (JV.mk (5:Int) false (0:Int) [] [] [])))] ⟨eqvI_flat _ _ kR,aS,fun _ _=>trivial,aS,rfl,eqvI_flat _ _ kR,(show EqvD (.agg [.int .i64 (5:Int),.bool false,.int .i64 (0:Int),.str [],encS [],.nilsl]) (.agg (encJ (JV.mk (5:Int) false (0:Int) [] [] []))) from aS)⟩ ?_
   exact zb []
  ·have hb:(c==93)=false:=beq_eq_false_iff_ne.2 hc
   have hb2:((c.toNat:Int)==93)=false:=(ibeq c 93).trans hb
   rw [if_neg (show ¬ isMk 93 (.mk c)=true from fun h=>hc (eq_of_beq h))]
   have e1:=wd_out (.mk c)
   have e2:=wd_outI (.mk c)
   refine zg [(1,{fm:=[(0,.agg [.int .i64 5,.bool false,.int .i64 0,.str [],encS [],.nilsl])]}),(2,{cs:=[(1,cb [0] c1)]}),(3,{fm:=[(0,.c (wdC (.mk c)))]})] [false] [EqvI (.agg [.int .i64 5,.bool false,.int .i64 0,.str [],.nilsl,.nilsl]) (.agg [.int .i64 5,.bool false,.int .i64 0,.str [],encS [],.nilsl]),EqvD (.agg [.int .i64 5,.bool false,.int .i64 0,.str [],.nilsl,.nilsl]) (.agg [.int .i64 5,.bool false,.int .i64 0,.str [],encS [],.nilsl]),EqvI (.c (.cl (wdC (.mk c)))) (.c (wdC (.mk c))),EqvD (.c (.cl (wdC (.mk c)))) (.c (wdC (.mk c))),((c.toNat:Int)==93)=false] ⟨eqvI_flat _ _ kR,jlist_D 5,e2,e1,hb2⟩ ?_
   exact Wp.join J (Ent.of [] kR kR kR trivial)
 | ph t =>
  rw [if_neg (show ¬ isMk 93 (.ph t)=true from fun h=>by cases h)]
  have e1:=wd_out (.ph t)
  have e2:=wd_outI (.ph t)
  refine zg [(1,{fm:=[(0,.agg [.int .i64 5,.bool false,.int .i64 0,.str [],encS [],.nilsl])]}),(2,{cs:=[(1,cb [0] c1)]}),(3,{fm:=[(0,.c (wdC (.ph t)))]})] [false] [EqvI (.agg [.int .i64 5,.bool false,.int .i64 0,.str [],.nilsl,.nilsl]) (.agg [.int .i64 5,.bool false,.int .i64 0,.str [],encS [],.nilsl]),EqvD (.agg [.int .i64 5,.bool false,.int .i64 0,.str [],.nilsl,.nilsl]) (.agg [.int .i64 5,.bool false,.int .i64 0,.str [],encS [],.nilsl]),EqvI (.c (.cl (wdC (.ph t)))) (.c (wdC (.ph t))),EqvD (.c (.cl (wdC (.ph t)))) (.c (wdC (.ph t))),false=false] ⟨eqvI_flat _ _ kR,jlist_D 5,e2,e1,rfl⟩ ?_
  exact Wp.join J (Ent.of [] kR kR kR trivial)
 | nu n =>
  rw [if_neg (show ¬ isMk 93 (.nu n)=true from fun h=>by cases h)]
  have e1:=wd_out (.nu n)
  have e2:=wd_outI (.nu n)
  refine zg [(1,{fm:=[(0,.agg [.int .i64 5,.bool false,.int .i64 0,.str [],encS [],.nilsl])]}),(2,{cs:=[(1,cb [0] c1)]}),(3,{fm:=[(0,.c (wdC (.nu n)))]})] [false] [EqvI (.agg [.int .i64 5,.bool false,.int .i64 0,.str [],.nilsl,.nilsl]) (.agg [.int .i64 5,.bool false,.int .i64 0,.str [],encS [],.nilsl]),EqvD (.agg [.int .i64 5,.bool false,.int .i64 0,.str [],.nilsl,.nilsl]) (.agg [.int .i64 5,.bool false,.int .i64 0,.str [],encS [],.nilsl]),EqvI (.c (.cl (wdC (.nu n)))) (.c (wdC (.nu n))),EqvD (.c (.cl (wdC (.nu n)))) (.c (wdC (.nu n))),false=false] ⟨eqvI_flat _ _ kR,jlist_D 5,e2,e1,rfl⟩ ?_
  exact Wp.join J (Ent.of [] kR kR kR trivial)
 | va v =>
  rw [if_neg (show ¬ isMk 93 (.va v)=true from fun h=>by cases h)]
  have e1:=wd_out (.va v)
  have e2:=wd_outI (.va v)
  refine zg [(1,{fm:=[(0,.agg [.int .i64 5,.bool false,.int .i64 0,.str [],encS [],.nilsl])]}),(2,{cs:=[(1,cb [0] c1)]}),(3,{fm:=[(0,.c (wdC (.va v)))]})] [false] [EqvI (.agg [.int .i64 5,.bool false,.int .i64 0,.str [],.nilsl,.nilsl]) (.agg [.int .i64 5,.bool false,.int .i64 0,.str [],encS [],.nilsl]),EqvD (.agg [.int .i64 5,.bool false,.int .i64 0,.str [],.nilsl,.nilsl]) (.agg [.int .i64 5,.bool false,.int .i64 0,.str [],encS [],.nilsl]),EqvI (.c (.cl (wdC (.va v)))) (.c (wdC (.va v))),EqvD (.c (.cl (wdC (.va v)))) (.c (wdC (.va v))),false=false] ⟨eqvI_flat _ _ kR,jlist_D 5,e2,e1,rfl⟩ ?_
  exact Wp.join J (Ent.of [] kR kR kR trivial)
theorem fnb_c {P:Program} {f:FuncId} {hin:List Blk} {args:List V1} {x x':Cell} {hout:List (Nat×Blk)} (h:FnB P G f hin args [.c x] hout) (e:EqvD (.c x) (.c x')) (i:EqvI (.c x) (.c x')):FnB P G f hin args [.c x'] hout:=by
 unfold FnB Go.Sv.Fn at h ⊢
 intro D ρ w vs h1 h2 h3 h4 h5 h6
 refine (h D ρ w vs h1 h2 h3 h4 h5 h6).mono ?_
 rintro u w' ⟨rs,ho,D',ρ',v,rfl,⟨rfl,rfl⟩,hr,hi,af⟩
 refine ⟨_,_,D',ρ',v,rfl,⟨rfl,rfl⟩,e D' ρ' v hr,fun j y hj => ?_,af⟩
 match j,hj with
 | 0,hj=>simp at hj; subst hj; exact i _ (hi 0 _ rfl)
 | j+1,hj=>simp at hj
theorem idxS_ok (l:List (List UInt8)) (n:Nat) (s:List UInt8) (hn:n=l.length) (hl:n<4611686018427387904):Pur Tryz.prog G 141 [.c (.sl 1 n (strsF l)),.c (.str s)] [.c (.int .i64 (ixF (·==s) l))]:=by
 subst hn
 refine zp Tryz.func141 ?_
 refine z0 [] [] ?_
 refine zl (fun (k:Nat)=>⟨[(0,.v (.c (.sl 1 l.length (strsF l)))),(1,.v (.c (.str s))),(7,.v (.c (.int .i64 (l.length:Int)))),(8,.v (.c (.int .i64 (k:Int))))],[],64⟩) (fun k=>k≤l.length∧∀ i,i<k→(l.getD i []==s)=false) (fun k=>l.length-k) 0 ⟨Nat.zero_le _,fun _ h=>absurd h (Nat.not_lt_zero _)⟩ ?_
 intro k L ⟨hk,hall⟩ again
 rcases Nat.lt_or_ge k l.length with hlt | hge
 ·cases hq:(s==l.getD k []) with
  | true =>
   have hq':(l.getD k []==s)=true:=by rw [Bool.beq_comm];exact hq
   rw [ixF_some (d:=[]) hlt hall hq']
   refine zg [] [true,true] [decide ((k:Int)<(l.length:Int))=true,(0:Int)≤(k:Int)∧(k:Int)<(l.length:Int),(s==l.getD k [])=true] ⟨sO,oM,(show (s==l.getD k [])=true from aS)⟩ ?_
   exact zr
  | false =>
   have hq':(l.getD k []==s)=false:=by rw [Bool.beq_comm];exact hq
   have hall':=up1 hall hq'
   refine zg [] [true,false] [decide ((k:Int)<(l.length:Int))=true,(0:Int)≤(k:Int)∧(k:Int)<(l.length:Int),(s==l.getD k [])=false,inR .i64 ((k:Int)+1)] ⟨sO,oM,aS,i6⟩ ?_
   exact za [] (again _ (k+1) ⟨aS,aS⟩ oM)
 ·rw [ixF_none (d:=[]) (fun i hi=>hall i oM)]
  refine zg [] [false] [decide ((k:Int)<(l.length:Int))=false] (oN sO) ?_
  exact zr
theorem conS_ok (l:List (List UInt8)) (n:Nat) (s:List UInt8) (hn:n=l.length) (hl:n<4611686018427387904):Pur Tryz.prog G 230 [.c (.sl 1 n (strsF l)),.c (.str s)] [.c (.bool (isIn l s))]:=by
 refine zp Tryz.func230 ?_
 have hx:=ixF_any (·==s) l
 have c:=idxS_ok (G:=G) l n s hn hl
 refine z0 [(1,{cs:=[(2,pc c)]})] [] ?_
 exact zS [.c (.bool (decide (ixF (fun (x:List UInt8)=>x==s) l≥(0:Int))))] (by simp [isIn, *];done)
end Go.Proofs.Tw
end
